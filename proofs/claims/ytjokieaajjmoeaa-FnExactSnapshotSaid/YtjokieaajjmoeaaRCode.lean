/- The evaluator, and that a body does what it tells. No condition. -/
import Derived.Test.YtjokieaajjmoeaaRInl
import Derived.ChangeArms
import Derived.Carry
import Derived.OpenShut
import Derived.ChangeMaps5
import Derived.SizedLaws
import Derived.ChangeOld
import Derived.Shelf.Strings.BuilderK
import Derived.Shelf.Strings.Repeat
import Derived.KernelRfl
import Derived.Test.YtjokieaajjmoeaaProg
noncomputable section
set_option linter.unusedVariables false
set_option linter.unusedSimpArgs false
namespace Go.Proofs.Ytjokieaajjmoeaa.R
open Go Go.RowKit
section
inductive Ex where
 | normal
 | exit (id:Nat)
 | ret
def Ex.to:Ex→Exit
 | .normal=>.normal
 | .exit id=>.exit id
 | .ret=>.ret
structure Cfg where
 sigs:Tb
 np:Nat
 n:Nat
 pat:Nat→D9×(Nat→D9)
def chk {R:Type}:List Bool→Option R→Option R
 | [],k=>k
 | c::r,k=>bif c then chk r k else none
def V0 {R:Type} (sg:M5) (den:Ij sg.ps→Option (Ij sg.rs×Pq sg.ps)) (s:St) (nid:Nat) (vs:List Vl) (k:AV→St→Option R):Option R:=
 match y8 sg.psh vs with
 | none=>none
 | some ls=>
  let sF:=s.frz (Cq s sg.ps ls)
  let sA:=if Da sg.rs&&E5 sg.ps then s else sF
  match D8 sF sg.ps ls with
  | none=>none
  | some q=>bif Ir (Ai q.2) then (bif Gn sA nid (C3 sg.rs) then (den q.1).bind fun r=>
   match shV sg.rsh (Yl sg.rs r.1 nid) with
   | none=>none
   | some vs'=>k (Aae vs') ⟨sA.cell,De sg.rs r.1 nid (Eh sg.ps r.2 q.2 sA.res)⟩
   else none) else none
def St.lit (s:St) (x:Operand) (b:Bool):St:=match x with
 | .tmp t=>s.setCell t (.vl (.lf (.c (.bool b))))
 | _=>s
def Ahi {R:Type} (s:St) (c x y:Operand) (k:AV→St→Option R):Option R:=match s.conc c with
 | some (.bool t)=>match g6 s x y with
  | some (p,q)=>k (.vl (.lf (.c (.bool (bif t then p else q))))) s
  | none=>bif t then k (s.op x) (s.lit c true) else k (s.op y) (s.lit c false)
 | _=>none
def Acb {R:Type} (P:Program) (T:Tb) (s:St) (nid:Nat) (o:Oper) (k:AV→St→Option R):Option R:=match Fr o with
 | some (f,xs)=>match Jz s xs with
  | some vs=>match T.sd f with
   | some sd=>V0 sd.sg sd.den s nid vs k
   | none=>match T.inl f with
    | some fn=>match Agi P T fn vs s nid with
     | some (cs,av,s')=>chk cs (k av s')
     | none=>none
    | none=>match Aeo T s f vs with
     | some (cs,av,s')=>chk cs (k av s')
     | none=>none
  | none=>none
 | none=>match Ri s o with
  | some (f,xs,ls)=>match Jz s xs with
   | some vs=>match T.sd f with
    | some sd=>V0 sd.sg sd.den s nid (vs++Agg ls) k
    | none=>none
   | none=>none
  | none=>match o.op with
   | .pick c x y=>Ahi s c x y k
   | _=>match It T.nest P s nid o with
    | some (cs,av,s')=>chk cs (k av s')
    | none=>none
def Aa0 {R:Type} (P:Program) (sigs:Tb) (s:St) (nid:Nat) (o:Oper) (k:AV→St→Option R):Option R:=
 let sl:=B2 o
 let ids:=Iv s o
 bif Gn s nid W0 then (bif Ig o s ids then Acb P sigs.dr (s.view sl ids) nid o fun av v=>
  bif Ys o || Rl (Fs av) (ids++Fl nid) then (bif Ig o v (ids++Fl nid) then k av v else none) else none
 else none) else none
def j9 {R:Type} (s:St) (ops:Array Oper) (o:Oper) (go:Bool→St→Option R):Option R:=match o.guard with
 | none=>go true s
 | some (j,want)=>match ops[j]? with
  | some oj=>match oj.dst with
   | some d=>match s.cell d with
    | .vl (.lf (.c (.bool b)))=>bif b then go want (s.lit (.tmp d) true) else go (!want) (s.lit (.tmp d) false)
    | .tp []=>go false s
    | _=>none
   | none=>none
  | none=>none
def L6 {R:Type} (P:Program) (cfg:Cfg) (ops:Array Oper):List Oper→Nat→St→(St→Option R)→Option R
 | [],_,s,k=>k s
 | o::r,nid,s,k=>j9 s ops o fun run s=>bif run then Acb P cfg.sigs s nid o (fun av s'=>L6 P cfg ops r (nid + W0) (s'.put cfg.n o.dst av) k)
  else L6 P cfg ops r (nid + W0) (s.put cfg.n o.dst (.tp [])) k
def Qg {R:Type} (P:Program) (cfg:Cfg) (ops:Array Oper):List Oper→Nat→St→List G7→(St→Option R)→Option R
 | [],_,s,tr,k=>bif Ac4 P ops 0 [] [] tr.reverse then k s else none
 | o::r,nid,s,tr,k=>j9 s ops o fun run s=>bif run then Aa0 P cfg.sigs s nid o (fun av v=>Qg P cfg ops r (nid + W0) ((Nv cfg.sigs s nid o av v).app P cfg.n s) (Nv cfg.sigs s nid o av v::tr) k)
  else Qg P cfg ops r (nid + W0) ((Rq nid o).app P cfg.n s) (Rq nid o::tr) k
def Dq:Code→Nat
 | .region id _ _=>id + 1
 | .seq a b=>if Dq a=0 then Dq b else Dq a
 | .cond _ a b=>if Dq a=0 then Dq b else Dq a
 | .block _ a=>Dq a
 | .loop a=>Dq a
 | _=>0
abbrev Kt (R:Type):=Ex→St→Nat→Option R
def Ex.no:Ex→Nat
 | .normal=>0
 | .ret=>1
 | .exit id=>id + 2
abbrev Lt (R:Type) (pat:Nat→D9×(Nat→D9)):=(key:Nat)→(pat key).1.D→Kt R→Option R
def Agu {R:Type} (np:Nat) (px:Nat→D9) (k:Kt R):Kt R:=fun e s nid=>match (px e.no).mtch np s nid with
 | some d=>k e ((px e.no).st d) (px e.no).nid
 | none=>none
def Aa1 {R:Type} (np:Nat) (p:D9×(Nat→D9)) (nx:p.1.D→Kt R→Option R) (k:Kt R):Kt R:=fun e s nid=>match e with
 | .normal=>match p.1.mtch np s nid with
  | some d=>nx d k
  | none=>none
 | .exit id=>Agu np p.2 k (.exit id) s nid
 | .ret=>Agu np p.2 k .ret s nid
def Uc {R:Type} (np:Nat) (p:D9×(Nat→D9)) (bd:St→Nat→Kt R→Option R):Nat→p.1.D→Kt R→Option R
 | 0,_,_=>none
 | m + 1,d,k=>bd (p.1.st d) p.1.nid (Aa1 np p (Uc np p bd m) k)
def Xl {R:Type} (P:Program) (cfg:Cfg) (q:Zt) (nid:Nat) (s:St) (k:St→Option R):Option R:=match Ahh P cfg.sigs cfg.n s nid q with
 | some (cs,s')=>chk cs (k s')
 | none=>none
def ev {R:Type} (P:Program) (cfg:Cfg) (L:Lt R cfg.pat):Code→St→Nat→Kt R→Option R
 | .skip,s,nid,k=>k .normal s nid
 | .region _ ops draw,s,nid,k=>match Ik ops.toList with
  | some q=>bif draw then none else L6 P cfg ops q.pre nid s fun s'=>Xl P cfg q nid s' (fun s'=>k .normal s' (nid + W0 * ops.size))
  | none=>bif draw then Qg P cfg ops ops.toList nid s [] (fun s'=>k .normal s' (nid + W0 * ops.size)) else L6 P cfg ops ops.toList nid s (fun s'=>k .normal s' (nid + W0 * ops.size))
 | .seq a b,s,nid,k=>ev P cfg L a s nid fun e s' nid'=>match e with
  | .normal=>ev P cfg L b s' nid' k
  | .exit id=>k (.exit id) s' nid'
  | .ret=>k .ret s' nid'
 | .cond c a b,s,nid,k=>match s.conc c with
  | some (.bool t)=>bif t then ev P cfg L a (s.lit c true) nid k else ev P cfg L b (s.lit c false) nid k
  | _=>none
 | .block id c,s,nid,k=>ev P cfg L c s nid fun e s' nid'=>match e with
  | .normal=>k .normal s' nid'
  | .exit id'=>if id'=id then k .normal s' nid' else k (.exit id') s' nid'
  | .ret=>k .ret s' nid'
 | .loop c,s,nid,k=>match (cfg.pat (Dq c)).1.mtch cfg.np s nid with
  | some d=>L (Dq c) d k
  | none=>none
 | .exit id,s,nid,k=>k (.exit id) s nid
 | .ret,s,nid,k=>k .ret s nid
 | _,_,_,_=>none
def Bx:Code→List Code
 | .loop c=>[c]
 | .seq a b=>Bx a++Bx b
 | .cond _ a b=>Bx a++Bx b
 | .block _ a=>Bx a
 | _=>[]
section
variable {R:Type} {P:Program} {n B:Nat} {Iq:List Nat} {s:St} {g:Gh} {a:Act} {w:World} {r:R}
theorem Nx:∀ {cs:List Bool} {k:Option R},chk cs k=some r→Hm cs=true∧k=some r
 | [],k,h=>⟨rfl,h⟩
 | c::cs,k,h=>by
  simp only [chk] at h
  cases c with
  | false=>cases h
  | true=>
   obtain ⟨h1,h2⟩:=Nx h
   exact ⟨by simp [Hm,h1],h2⟩
theorem Rx {sg:M5} {den:Ij sg.ps→Option (Ij sg.rs×Pq sg.ps)} {nid:Nat} {vs:List Vl} {k:AV→St→Option R} (h:V0 sg den s nid vs k=some r):
  ∃ av s',P5 sg den s nid vs=some (av,s')∧k av s'=some r:=by
 unfold V0 at h
 unfold P5
 split at h
 ·cases h
 ·rename_i ls e1
  dsimp only at h
  split at h
  ·cases h
  ·rename_i q e2
   cases h1:Ir (Ai q.2) with
   | false=>rw [h1] at h; cases h
   | true=>
    rw [h1] at h
    simp only [cond_true] at h
    cases h2:Gn (if (Da sg.rs&&E5 sg.ps)=true then s else s.frz (Cq s sg.ps ls)) nid (C3 sg.rs) with
    | false=>rw [h2] at h; cases h
    | true=>
     rw [h2] at h
     simp only [cond_true] at h
     obtain ⟨d,e3,h⟩:=Al h
     split at h
     ·cases h
     ·rename_i vs' e4
      refine ⟨_,_,?_,h⟩
      rw [e1]
      simp only [Option.bind_some]
      rw [e2]
      simp only [Option.bind_some,h1,h2,if_true,e3,e4]
theorem K4 {x:Operand} {b:Bool} (h:s.conc x=some (.bool b)):s.lit x b=s:=by
 cases x with
 | tmp t=>
  refine St.ext' (fun i=>?_) (fun _=>rfl)
  show Du s.cell t _ i=s.cell i
  by_cases q:i=t
  ·subst q
   rw [Aa]
   unfold St.conc at h
   split at h
   ·rename_i hv
    cases h
    exact hv.symm
   ·cases h
  ·rw [Ae _ _ q]
 | const v=>rfl
 | global _=>rfl
 | func _=>rfl
theorem Qh {T:Tb} {nid:Nat} {o:Oper} {k:AV→St→Option R} (h:Acb P T s nid o k=some r):∃ av s',Iu P T s nid o=some (av,s')∧k av s'=some r:=by
 unfold Acb at h
 unfold Iu
 split at h
 ·rename_i f xs hc
  split at h
  ·rename_i vs hvs
   split at h
   ·rename_i sd hsd
    obtain ⟨av,s',e1,e2⟩:=Rx h
    exact ⟨av,s',by simp only [hc,hvs,hsd,e1],e2⟩
   ·rename_i hsd
    split at h
    ·rename_i fn hfn
     split at h
     ·rename_i cs av s' hi
      obtain ⟨h1,h2⟩:=Nx h
      exact ⟨av,s',by simp only [hc,hvs,hsd,hfn]; rw [hi]; simp [En,h1],h2⟩
     ·cases h
    ·rename_i hfn
     split at h
     ·rename_i cs av s' hn
      obtain ⟨h1,h2⟩:=Nx h
      exact ⟨av,s',by simp only [hc,hvs,hsd,hfn]; rw [hn]; simp [En,h1],h2⟩
     ·cases h
  ·cases h
 ·rename_i hc
  split at h
  ·rename_i f xs ls hcl
   split at h
   ·rename_i vs hvs
    split at h
    ·rename_i sd hsd
     obtain ⟨av,s',e1,e2⟩:=Rx h
     exact ⟨av,s',by simp only [hc,hcl,hvs,hsd,e1],e2⟩
    ·cases h
   ·cases h
  ·rename_i hcl
   split at h
   ·rename_i c x y hop
    have hst:It T.nest P s nid o=av0 s (Nq s c x y):=(Fi fun _=>by unfold Ps; rw [hop]).trans (by unfold Gf; rw [hop])
    unfold Ahi at h
    rw [hst]
    split at h
    ·rename_i t ht
     split at h
     ·rename_i p q hb
      refine ⟨_,_,?_,h⟩
      have:Nq s c x y=some (.vl (.lf (.c (.bool (bif t then p else q))))):=by unfold Nq; rw [ht]; simp only [hb]
      rw [this]
      simp [hc,hcl,av0,En,Hm]
     ·rename_i hb
      have:Nq s c x y=some (bif t then s.op x else s.op y):=by unfold Nq; rw [ht]; simp only [hb]
      cases t with
      | true=>
       rw [K4 ht] at h
       exact ⟨s.op x,s,by rw [this]; simp [hc,hcl,av0,En,Hm],h⟩
      | false=>
       rw [K4 ht] at h
       exact ⟨s.op y,s,by rw [this]; simp [hc,hcl,av0,En,Hm],h⟩
    ·cases h
   ·split at h
    ·rename_i cs av s' hst
     obtain ⟨h1,h2⟩:=Nx h
     exact ⟨av,s',by simp only [hc,hcl]; rw [hst]; simp [En,h1],h2⟩
    ·cases h
theorem Gs {c:Bool} {x:Option R} (h:(bif c then x else none)=some r):c=true∧x=some r:=by
 cases c with
 | false=>cases h
 | true=>exact ⟨rfl,h⟩
theorem v7 {sigs:Tb} {nid:Nat} {o:Oper} {k:AV→St→Option R} (h:Aa0 P sigs s nid o k=some r):∃ av v,Pt P sigs s nid o=some (av,v)∧k av v=some r:=by
 unfold Aa0 at h
 dsimp only at h
 obtain ⟨h1,h⟩:=Gs h
 obtain ⟨h2,h⟩:=Gs h
 obtain ⟨av,v,e1,h⟩:=Qh h
 obtain ⟨h3,h⟩:=Gs h
 obtain ⟨h4,h⟩:=Gs h
 refine ⟨av,v,?_,h⟩
 unfold Pt
 dsimp only
 rw [if_pos h1,if_pos h2,e1]
 simp only [Option.bind_some,h3,h4,if_true]
theorem Ny {ops:Array Oper} {o:Oper} {go:Bool→St→Option R} (h:j9 s ops o go=some r):∃ run,E9 s ops o=some run∧go run s=some r:=by
 unfold j9 at h
 unfold E9
 split at h
 ·rename_i hg
  exact ⟨true,by rw [hg],h⟩
 ·rename_i j want hg
  rw [hg]
  simp only
  unfold Aao
  split at h
  ·rename_i oj hoj
   rw [hoj]
   simp only
   split at h
   ·rename_i d hd
    rw [hd]
    simp only
    split at h
    ·rename_i b hb
     rw [hb]
     refine ⟨bif b then want else !want,rfl,?_⟩
     have hc:s.conc (.tmp d)=some (.bool b):=by unfold St.conc; show (match s.cell d with | .vl (.lf (.c v))=>some v | _=>none)=_; rw [hb]
     cases b with
     | true=>rw [K4 hc] at h; exact h
     | false=>rw [K4 hc] at h; exact h
    ·rename_i hb
     rw [hb]
     exact ⟨false,rfl,h⟩
    ·cases h
   ·cases h
  ·cases h
structure Gx (np B:Nat) (Iq:List Nat) (s0:St) (g0:Gh) (w0:World) (s:St) (g:Gh) (w:World):Prop where
 kp:Kp B Iq w0 w
 av:g.av=g0.av
 pin:∀ id,id < np→(s0.res id).live=true→s.res id≠.unborn∧(∀ T ls,s.res id=.box T ls→(∃ T' ls',s0.res id=.box T' ls')∧g.blk id=g0.blk id)∧
  (∀ e,∀ t:Ty,∀ xs:List t.D,s.res id=.row e t xs→(∃ e',∃ xs':List t.D,s0.res id=.row e' t xs')∧g.blk id=g0.blk id∧g.hdr id=g0.hdr id)∧
  ((s.res id).nst=true→(s0.res id).nst=true∧g.blk id=g0.blk id∧g.hdr id=g0.hdr id)
section
variable {np:Nat} {s0:St} {g0:Gh} {w0:World}
theorem Gx.step {s':St} {g':Gh} {w':World} (h:Gx np B Iq s0 g0 w0 s g w) (k:Go B Iq s g w s' g' w'):Gx np B Iq s0 g0 w0 s' g' w':=by
 refine ⟨h.kp.trans k.kp,k.av.trans h.av,fun id hid hl=>?_⟩
 obtain ⟨h1,h2,h3,h4⟩:=h.pin id hid hl
 have r:=k.ref id
 unfold Ag at r
 rcases r with r | r
 ·exact ⟨by rw [r]; simp,fun T ls q=>(by rw [r] at q; cases q),fun e t xs q=>(by rw [r] at q; cases q),fun q=>by rw [r] at q; cases q⟩
 ·cases hs:s.res id with
  | unborn=>exact absurd hs h1
  | dead=>rw [hs] at r; exact r.elim
  | box T ls=>
   rw [hs] at r
   obtain ⟨T',ls',e1,e2⟩:=r
   refine ⟨by rw [e1]; simp,fun _ _ _=>?_,fun e t xs q=>(by rw [e1] at q; cases q),fun q=>by rw [e1] at q; cases q⟩
   obtain ⟨q1,q2⟩:=h2 T ls hs
   exact ⟨q1,e2.trans q2⟩
  | row e t xs=>
   rw [hs] at r
   rcases r with ⟨e',xs',e1,_,e2,e3⟩ | ⟨t',xs',e1,_⟩
   ·refine ⟨by rw [e1]; simp,fun T ls q=>(by rw [e1] at q; cases q),fun e2' t2 xs2 q=>?_,fun q=>by rw [e1] at q; cases q⟩
    rw [e1] at q
    cases q
    obtain ⟨q1,q2,q3⟩:=h3 e t xs hs
    exact ⟨q1,e3.trans q2,e2.trans q3⟩
   ·exact ⟨by rw [e1]; simp,fun T ls q=>(by rw [e1] at q; cases q),fun e t xs q=>(by rw [e1] at q; cases q),fun q=>by rw [e1] at q; cases q⟩
  | frozen t xs=>
   rw [hs] at r
   obtain ⟨t',xs',e1,_⟩:=r
   exact ⟨by rw [e1]; simp,fun T ls q=>(by rw [e1] at q; cases q),fun e t xs q=>(by rw [e1] at q; cases q),fun q=>by rw [e1] at q; cases q⟩
  | last e t xs c j=>
   rw [hs] at r
   rcases r with ⟨e1,e2,e3⟩ | ⟨t',xs',e1,_⟩
   ·obtain ⟨q1,q2,q3⟩:=h4 (by rw [hs]; rfl)
    rcases Dj.nlen_some e1 with ⟨_,_,_,_,_,e1,_⟩ | ⟨_,_,_,_,_,e1,_⟩<;>exact ⟨by rw [e1]; simp,fun T ls q=>(by rw [e1] at q; cases q),fun e t xs q=>(by rw [e1] at q; cases q),fun _=>⟨q1,e3.trans q2,e2.trans q3⟩⟩
   ·exact ⟨by rw [e1]; simp,fun T ls q=>(by rw [e1] at q; cases q),fun e t xs q=>(by rw [e1] at q; cases q),fun q=>by rw [e1] at q; cases q⟩
  | mid e t xs i j=>
   rw [hs] at r
   rcases r with ⟨e1,e2,e3⟩ | ⟨t',xs',e1,_⟩
   ·obtain ⟨q1,q2,q3⟩:=h4 (by rw [hs]; rfl)
    rcases Dj.nlen_some e1 with ⟨_,_,_,_,_,e1,_⟩ | ⟨_,_,_,_,_,e1,_⟩<;>exact ⟨by rw [e1]; simp,fun T ls q=>(by rw [e1] at q; cases q),fun e t xs q=>(by rw [e1] at q; cases q),fun _=>⟨q1,e3.trans q2,e2.trans q3⟩⟩
   ·exact ⟨by rw [e1]; simp,fun T ls q=>(by rw [e1] at q; cases q),fun e t xs q=>(by rw [e1] at q; cases q),fun q=>by rw [e1] at q; cases q⟩
  | map t xs=>
   rw [hs] at r
   obtain ⟨_,_,e1,_⟩:=r
   exact ⟨by rw [e1]; simp,fun T ls q=>(by rw [e1] at q; cases q),fun e t xs q=>(by rw [e1] at q; cases q),fun q=>by rw [e1] at q; cases q⟩
  | iter t xs seen cur=>
   rw [hs] at r
   obtain ⟨_,_,_,_,e1,_⟩:=r
   exact ⟨by rw [e1]; simp,fun T ls q=>(by rw [e1] at q; cases q),fun e t xs q=>(by rw [e1] at q; cases q),fun q=>by rw [e1] at q; cases q⟩
theorem Gx.canon {s':St} {g':Gh} (h:Gx np B Iq s0 g0 w0 s g w) (ha:g'.av=g.av) (hp:∀ id,id < np→(s'.res id=.unborn→s.res id=.unborn)∧(∀ T ls,s'.res id=.box T ls→(∃ T' ls',s.res id=.box T' ls')∧g'.blk id=g.blk id)∧(∀ e,∀ t:Ty,∀ xs:List t.D,s'.res id=.row e t xs→(∃ e',∃ xs':List t.D,s.res id=.row e' t xs')∧g'.blk id=g.blk id∧g'.hdr id=g.hdr id)∧((s'.res id).nst=true→(s.res id).nst=true∧g'.blk id=g.blk id∧g'.hdr id=g.hdr id)):Gx np B Iq s0 g0 w0 s' g' w:=by
 refine ⟨h.kp,ha.trans h.av,fun id hid hl=>?_⟩
 obtain ⟨h1,h2,h3,h4⟩:=h.pin id hid hl
 obtain ⟨k1,k2,k3,k4⟩:=hp id hid
 refine ⟨fun q=>h1 (k1 q),fun T ls q=>?_,fun e t xs q=>?_,fun q=>?_⟩
 ·obtain ⟨⟨T',ls',e1⟩,e2⟩:=k2 T ls q
  obtain ⟨e3,e4⟩:=h2 T' ls' e1
  exact ⟨e3,e2.trans e4⟩
 ·obtain ⟨⟨e',xs',e1⟩,e2,e2'⟩:=k3 e t xs q
  obtain ⟨e3,e4,e5⟩:=h3 e' t xs' e1
  exact ⟨e3,e2.trans e4,e2'.trans e5⟩
 ·obtain ⟨e1,e2,e3⟩:=k4 q
  obtain ⟨q1,q2,q3⟩:=h4 e1
  exact ⟨q1,e2.trans q2,e3.trans q3⟩
theorem k7 {nid:Nat} {p:D9} {d:p.D} (h:As n B Iq s g a w) (hx:Gx np B Iq s0 g0 w0 s g w) (e:p.mtch np s nid=some d):∃ g',As n B Iq (p.st d) g' a w∧Gx np B Iq s0 g0 w0 (p.st d) g' w:=by
 obtain ⟨s1,g1,g',k1,k2,k3,k4⟩:=Agt h e
 exact ⟨g',k2,(hx.step k1).canon k3 k4⟩
theorem Acd {np':Nat} (hnp:np'=np) {px:Nat→D9} {k:Kt R} {Q:Exit→Act→World→Prop} (hk:∀ e s' nid' g' a' w',k e s' nid'=some r→As n B Iq s' g' a' w'→Gx np B Iq s0 g0 w0 s' g' w'→Q e.to a' w') {e:Ex} {nid:Nat}
  (he:Agu np' px k e s nid=some r) (h:As n B Iq s g a w) (hx:Gx np B Iq s0 g0 w0 s g w):Q e.to a w:=by
 subst hnp
 unfold Agu at he
 split at he
 ·rename_i d hd
  obtain ⟨g',k1,k2⟩:=k7 h hx hd
  exact hk e _ _ g' a w he k1 k2
 ·cases he
theorem Ta {cfg:Cfg} (hs:Bd P cfg.sigs) (hn:cfg.n=n) {ops:Array Oper} {k:St→Option R} {Q:Exit→Act→World→Prop}
  (hk:∀ s' g' a' w',k s'=some r→As n B Iq s' g' a' w'→Gx np B Iq s0 g0 w0 s' g' w'→Q .normal a' w'):
  ∀ {l:List Oper} {nid:Nat} {s:St} {g:Gh} {a:Act} {w:World},L6 P cfg ops l nid s k=some r→As n B Iq s g a w→Gx np B Iq s0 g0 w0 s g w→wpList P ops Q l a w
 | [],nid,s,g,a,w,e,h,hx=>hk s g a w e h hx
 | o::l,nid,s,g,a,w,e,h,hx=>by
  simp only [L6] at e
  obtain ⟨run,e1,e⟩:=Ny e
  unfold wpList
  rw [Gq h e1]
  cases run with
  | true=>
   simp only [cond_true] at e
   obtain ⟨av,s',e2,e⟩:=Qh e
   rw [if_pos rfl]
   left
   refine Nt hs h e2 _ Q fun v g' w' k1 k2 k3=>?_
   obtain ⟨r1,r2⟩:=G2 k2 o.dst k3
   rw [hn] at e
   exact Ta hs hn hk e r1 ((hx.step k1).step r2)
  | false=>
   simp only [cond_false] at e
   rw [if_neg (by simp)]
   obtain ⟨r1,r2⟩:=G2 (av:=.tp []) (v:=undef) h o.dst ⟨#[],rfl,rfl,fun j v hv=>by simp at hv⟩
   rw [hn] at e
   exact Ta hs hn hk e r1 (hx.step r2)
theorem Qi {cfg:Cfg} (hs:Bd P cfg.sigs) (hn:cfg.n=n) {ops:Array Oper} {k:St→Option R} {Q:Exit→Act→World→Prop} {rest:List Oper}
  (hk:∀ s' g' a' w',k s'=some r→As n B Iq s' g' a' w'→Gx np B Iq s0 g0 w0 s' g' w'→wpList P ops Q rest a' w'):
  ∀ {l:List Oper} {nid:Nat} {s:St} {g:Gh} {a:Act} {w:World},L6 P cfg ops l nid s k=some r→As n B Iq s g a w→Gx np B Iq s0 g0 w0 s g w→wpList P ops Q (l++rest) a w
 | [],nid,s,g,a,w,e,h,hx=>hk s g a w e h hx
 | o::l,nid,s,g,a,w,e,h,hx=>by
  simp only [L6] at e
  obtain ⟨run,e1,e⟩:=Ny e
  show wpList P ops Q (o::(l++rest)) a w
  unfold wpList
  rw [Gq h e1]
  cases run with
  | true=>
   simp only [cond_true] at e
   obtain ⟨av,s',e2,e⟩:=Qh e
   rw [if_pos rfl]
   left
   refine Nt hs h e2 _ Q fun v g' w' k1 k2 k3=>?_
   obtain ⟨r1,r2⟩:=G2 k2 o.dst k3
   rw [hn] at e
   exact Qi hs hn hk e r1 ((hx.step k1).step r2)
  | false=>
   simp only [cond_false] at e
   rw [if_neg (by simp)]
   obtain ⟨r1,r2⟩:=G2 (av:=.tp []) (v:=undef) h o.dst ⟨#[],rfl,rfl,fun j v hv=>by simp at hv⟩
   rw [hn] at e
   exact Qi hs hn hk e r1 (hx.step r2)
theorem Xm {l:List Oper} {q:Zt} (h:Ik l=some q):l=q.pre++[q.o2,q.o3,q.o4]:=by
 unfold Ik at h
 split at h
 ·split at h<;>cases h
  rfl
 ·cases h
theorem Yx {l:List Oper} {q:Zt} (h:Ik l=some q):Vz q.o2 q.o3 q.o4=some (q.V,q.z,q.d2,q.d3,q.fs):=by
 unfold Ik at h
 split at h
 ·split at h<;>cases h
  rename_i h
  exact h
 ·cases h
theorem Aa2 {av:AV} {fc:FuncId} {b:Nat} (h:Afc av=some (fc,b)):av=.fn fc [.ptr b 0]:=by
 unfold Afc at h
 split at h<;>cases h
 rfl
theorem Yy {BT:TypeId} {v:Dj} {r:Nat} (h:Xk BT v=some r):v=.box BT [.row r]:=by
 unfold Xk at h
 split at h
 ·split at h<;>cases h
  rename_i hT
  rw [hT]
 ·cases h
theorem k8 {l:Option Lf} {r:Nat} (h:j7 l=some r):l=some (.row r):=by
 unfold j7 at h
 split at h<;>cases h
 rfl
theorem Agv {cfg:Cfg} (hs:Bd P cfg.sigs) (hn:cfg.n=n) {ops:Array Oper} {q:Zt} (hq:Ik ops.toList=some q) {nid:Nat} {k:St→Option R} {Q:Exit→Act→World→Prop}
  (hk:∀ s' g' a' w',k s'=some r→As n B Iq s' g' a' w'→Gx np B Iq s0 g0 w0 s' g' w'→Q .normal a' w') (e:Xl P cfg q nid s k=some r) (h:As n B Iq s g a w) (hx:Gx np B Iq s0 g0 w0 s g w):wpList P ops Q [q.o2,q.o3,q.o4] a w:=by
 obtain ⟨t1,t2,t3,t4,t5,t6,t7,t8⟩:=j8 (Yx hq)
 unfold Xl at e
 split at e
 ·rename_i cs s' es
  obtain ⟨hcs,ek⟩:=Nx e
  clear e
  unfold Ahh at es
  split at es
  ·rename_i fs fc BT U ety hsrt
   split at es
   ·rename_i r0 hr0
    have hr0:=k8 hr0
    split at es
    ·rename_i av s3 hst
     split at es
     ·rename_i fc' b hav
      have hav:=Aa2 hav
      subst hav
      split at es
      ·rename_i r' xs hbx hrw
       split at es
       rotate_left
       ·cases es
       rename_i c0
       split at es
       ·rename_i c1
        split at es
        ·rename_i c2
         split at es
         ·rename_i c3
          split at es
          ·rename_i c4
           split at es
           ·rename_i c5
            split at es
            ·rename_i c6
             cases es
             subst c1 c2 c3 c4
             rw [hn] at c5 c6 hst ek
             have hbx:=Yy hbx
             have hrw:=Aay hrw
             obtain ⟨hcal,hok⟩:=hs.srt _ _ _ _ _ hsrt
             have hnd:D0 xs=true∧xs.length≤1000:=by simpa [Hm] using hcs
             obtain ⟨hz,_⟩:=Bf h hr0
             unfold wpList
             rw [Gq h (r:=true) (by unfold E9; rw [t3]),if_pos rfl]
             left
             have hrun:(execOp a.eval q.o2).run P w=.ok (.value (.iface q.V (a.eval q.z))) w:=by
              unfold Zb at c0
              split at c0
              ·rename_i hU
               simp [execOp,t1,Instr.makeInterface,run_underlying hU,Result.andThen]
              ·cases c0
             unfold Oper.wp
             rw [hrun,Oper.upon_value]
             obtain ⟨a1,a2⟩:=G2 (av:=.dead) (v:=.iface q.V (a.eval q.z)) h q.o2.dst trivial
             unfold wpList
             rw [Gq a1 (r:=true) (by unfold E9; rw [t5]),if_pos rfl]
             left
             refine Nt hs a1 hst _ Q fun v g3 w3 k1 k2 k3=>?_
             obtain ⟨b1,b2⟩:=G2 k2 q.o3.dst k3
             unfold wpList
             rw [Gq b1 (r:=true) (by unfold E9; rw [t7]),if_pos rfl]
             left
             obtain ⟨caps,hv,hL⟩:=k3
             obtain ⟨p0,hcaps⟩:∃ p0,caps=#[p0]:=by
              have:=hL.length
              match caps,this with
              | ⟨[x]⟩,_=>exact ⟨x,rfl⟩
             subst hcaps
             have hp:=hL.1.1
             simp only [A7,hbx] at hp
             obtain ⟨bb,hbb,hp⟩:=hp
             have hp:p0=.pointer (some ⟨bb,0,none⟩):=hp
             subst hp
             have hbx2:(s3.put n q.o3.dst (.fn fc' [.ptr b 0])).res b=.box BT [.row r']:=by rw [Vs]; exact hbx
             have hrw2:(s3.put n q.o3.dst (.fn fc' [.ptr b 0])).res r'=.row ety prT xs:=by rw [Vs]; exact hrw
             have hcall:=Ada b1 hok hbb hbx2 hrw2 hnd.1 hnd.2
             have hhd:a.eval q.z=g3.hdr r':=by
              have e1:A7 s3 g3 w3 (.row r') (a.eval q.z):=by
               have:=A7.step (a2.trans k1).S (a2.trans k1).ref hz
               exact this
              simp only [A7,hrw] at e1
              exact e1
             have hsz:a.tmps.size=n:=h.size
             have hd2:((a.put q.o2.dst (.iface q.V (a.eval q.z))).put q.o3.dst v).eval (.tmp q.d2)=.iface q.V (a.eval q.z):=by
              show ((a.put q.o2.dst (.iface q.V (a.eval q.z))).put q.o3.dst v).tmps.getD q.d2 undef=_
              rw [t2,t4,Aaz t8,Aca (by rw [hsz]; exact c5)]
             have hd3:((a.put q.o2.dst (.iface q.V (a.eval q.z))).put q.o3.dst v).eval (.tmp q.d3)=v:=by
              show ((a.put q.o2.dst (.iface q.V (a.eval q.z))).put q.o3.dst v).tmps.getD q.d3 undef=_
              rw [t4,Aca (by rw [k2.size]; exact c6)]
             have hco:O0 P q.fs (([.tmp q.d2,.tmp q.d3]:List Operand).map ((a.put q.o2.dst (.iface q.V (a.eval q.z))).put q.o3.dst v).eval).toArray n B Iq (s3.put n q.o3.dst (.fn fc' [.ptr b 0])) g3 ((a.put q.o2.dst (.iface q.V (a.eval q.z))).put q.o3.dst v) w3 (.tp [])
              ((s3.put n q.o3.dst (.fn fc' [.ptr b 0])).setRes r' (.row ety prT (K0 xs))):=by
              have hd2':=hd2.trans (congrArg (Value.iface q.V) hhd)
              have hd3':=hd3.trans hv
              simp only [List.map_cons,List.map_nil,hd2',hd3']
              exact hcall
             refine E6.call t6 hcal hco _ Q fun v4 g4 w4 j1 j2 j3=>?_
             obtain ⟨d1,d2⟩:=G2 j2 q.o4.dst j3
             unfold wpList
             exact hk _ _ _ _ ek d1 (((((hx.step a2).step k1).step b2).step j1).step d2)
            ·cases es
           ·cases es
          ·cases es
         ·cases es
        ·cases es
       ·cases es
      ·cases es
     ·cases es
    ·cases es
   ·cases es
  ·cases es
 ·cases e
theorem Nz {cfg:Cfg} {ops:Array Oper} {k:St→Option R}:∀ {l:List Oper} {nid:Nat} {s:St} {acc:List G7},Qg P cfg ops l nid s acc k=some r→
  ∃ tr,tr.map (·.o)=l∧Qe P cfg.sigs ops cfg.n tr s∧Ac4 P ops 0 [] [] (acc.reverse++tr)=true∧∀ i,k (L3 P cfg.n (fun _=>true) i tr s)=some r
 | [],nid,s,acc,e=>by
  simp only [Qg] at e
  obtain ⟨h1,h2⟩:=Gs e
  exact ⟨[],rfl,trivial,by simpa using h1,fun i=>h2⟩
 | o::l,nid,s,acc,e=>by
  simp only [Qg] at e
  obtain ⟨run,e1,e⟩:=Ny e
  cases run with
  | true=>
   simp only [cond_true] at e
   obtain ⟨av,v,e2,e⟩:=v7 e
   obtain ⟨tr,h1,h2,h3,h4⟩:=Nz e
   refine ⟨Nv cfg.sigs s nid o av v::tr,by simp [h1,Nv],⟨.inl ⟨e1,av,v,e2,rfl⟩,h2⟩,by simpa using h3,fun i=>?_⟩
   simp only [L3,if_true]
   exact h4 (i + 1)
  | false=>
   simp only [cond_false] at e
   obtain ⟨tr,h1,h2,h3,h4⟩:=Nz e
   refine ⟨Rq nid o::tr,by simp [h1,Rq],⟨.inr ⟨e1,rfl⟩,h2⟩,by simpa using h3,fun i=>?_⟩
   simp only [L3,if_true]
   exact h4 (i + 1)
theorem Afd (listed:Array Bool):∀ k,unl listed k≤k
 | 0=>Nat.le_refl _
 | k + 1=>by
  simp only [unl]
  have:=Afd listed k
  split<;>omega
theorem v8 {D:Nat→Bool}:∀ {tr:List G7} {i:Nat} {s:St},(∀ j,D j=false)→L3 P n D i tr s=s
 | [],_,_,_=>rfl
 | e::r,i,s,h=>by
  simp only [L3,h,Bool.false_eq_true,if_false]
  exact v8 h
theorem Afe (h:As n B Iq s g a w):As n B Iq s g a { w with drawn:=w.drawn + 1 }∧Go B Iq s g w s g { w with drawn:=w.drawn + 1 }:=by
 have hS:∀ b,By s g b→b < w.heap.size→By s g b∧({ w with drawn:=w.drawn + 1 }:World).heap[b]? = w.heap[b]? := fun b hb _=>⟨hb,rfl⟩
 have hI:∀ id,Ag s g s g id:=fun _=>Ag.same rfl rfl rfl
 exact ⟨h.step h.size h.defers (Nat.le_refl _) hS hI (fun _=>.inl ⟨rfl,rfl⟩) (fun _=>.inl ⟨rfl,rfl,rfl,fun _ _=>rfl⟩) h.inj h.lt rfl (NK.of h (w':={ w with drawn:=w.drawn + 1 }) (Nat.le_refl _) (fun _ _ h1 h2=>⟨h1,h2⟩) (fun _ _=>rfl) (fun _ _ _=>rfl) fun id b q=>.inl ⟨id,q⟩),⟨⟨rfl,rfl,rfl,Nat.le_refl _,fun _ _ _=>rfl⟩,hS,hI,rfl⟩⟩
theorem Adc {cfg:Cfg} (hm:P.follows .mixedOrders=true) (hs:Bd P cfg.sigs) (hn:cfg.n=n) {id:Nat} {ops:Array Oper} {draw:Bool} {nid:Nat} {k:St→Option R} {Q:Exit→Act→World→Prop}
  (hk:∀ s' g' a' w',k s'=some r→As n B Iq s' g' a' w'→Gx np B Iq s0 g0 w0 s' g' w'→Q .normal a' w') (h:As n B Iq s g a w) (hx:Gx np B Iq s0 g0 w0 s g w)
  (e:(bif draw then Qg P cfg ops ops.toList nid s [] k else L6 P cfg ops ops.toList nid s k)=some r):(Code.region id ops draw).wp P Q a w:=by
 cases draw with
 | false=>
  simp only [cond_false] at e
  exact wp_region_list (Ta hs hn hk e h hx)
 | true=>
  simp only [cond_true] at e
  obtain ⟨tr,h1,h2,h3,h4⟩:=Nz e
  rw [hn] at h2 h4
  obtain ⟨d1,d2⟩:=Afe h
  refine wp_region_any hm ?_
  have hD:∀ j,(Array.replicate ops.size false).getD j false=false:=fun j=>by
   simp [Array.getD_eq_getD_getElem?,Array.getElem?_replicate]
   split<;>rfl
  have hmix:L3 P n (fun i=>(Array.replicate ops.size false).getD i false) 0 tr s=s:=v8 hD
  refine Ah4 hs h1 h2 (by simpa using h3) (g0:=g) (w0:={ w with drawn:=w.drawn + 1 }) (fun a' g' w' q1 q2=>hk _ g' a' w' (h4 0) q2 ((hx.step d2).step q1)) ops.size _ a g _ (by simp) (Afd _ _) (fun j f q1 q2=>?_) ?_ ?_
  ·have q2':(Array.replicate ops.size false).getD j false=true:=q2
   rw [hD] at q2'
   cases q2'
  ·rw [hmix]; exact Go.refl _ _ _ _ _
  ·rw [hmix]; exact d1
theorem Zu {p:Nat→Prop} (h:∃ m,p m):∃ m,p m∧∀ m',p m'→m≤m':=by
 obtain ⟨m,hm⟩:=h
 induction m using Nat.strongRecOn with
 | _ m ih=>
  by_cases q:∃ j,j < m∧p j
  ·obtain ⟨j,q1,q2⟩:=q
   exact ih j q1 q2
  ·refine ⟨m,hm,fun j hj=>?_⟩
   rcases Nat.lt_or_ge j m with q2 | q2
   ·exact absurd ⟨j,q2,hj⟩ q
   ·exact q2
theorem Agw {np':Nat} {p:D9×(Nat→D9)} {c:Code} {bd:St→Nat→Kt R→Option R} {Q:Exit→Act→World→Prop} {k:Kt R} (hnp:np'=np)
  (hbd:∀ {s:St} {g:Gh} {a:Act} {w:World} {nid:Nat} {k:Kt R} {Q:Exit→Act→World→Prop},(∀ e s' nid' g' a' w',k e s' nid'=some r→As n B Iq s' g' a' w'→Gx np B Iq s0 g0 w0 s' g' w'→Q e.to a' w')→
   bd s nid k=some r→As n B Iq s g a w→Gx np B Iq s0 g0 w0 s g w→c.wp P Q a w)
  (hk:∀ e s' nid' g' a' w',k e s' nid'=some r→As n B Iq s' g' a' w'→Gx np B Iq s0 g0 w0 s' g' w'→Q e.to a' w') {m:Nat} {d:p.1.D}
  (e:Uc np' p bd m d k=some r) (h:As n B Iq (p.1.st d) g a w) (hx:Gx np B Iq s0 g0 w0 (p.1.st d) g w):(Code.loop c).wp P Q a w:=by
 let J:Nat→Act→World→Prop:=fun m a w=>∃ d g,Uc np' p bd m d k=some r∧As n B Iq (p.1.st d) g a w∧Gx np B Iq s0 g0 w0 (p.1.st d) g w
 classical
 refine wp_loop (fun a w=>∃ m,J m a w) (fun a w=>if hj:∃ m,J m a w then Classical.choose (Zu hj) else 0) ⟨m,d,g,e,h,hx⟩ fun a w hj=>?_
 have hmu:(if hj:∃ m,J m a w then Classical.choose (Zu hj) else 0)=Classical.choose (Zu hj):=dif_pos hj
 have hspec:=(Classical.choose_spec (Zu hj)).1
 generalize hm:Classical.choose (Zu hj)=m at hspec
 obtain ⟨d,g,e,h,hx⟩:=hspec
 cases m with
 | zero=>simp [Uc] at e
 | succ m=>
  simp only [Uc] at e
  refine hbd (fun e s' nid' g' a' w' q h' hx'=>?_) e h hx
  unfold Aa1 at q
  cases e with
  | normal=>
   simp only at q
   split at q
   ·rename_i d' hd
    subst hnp
    obtain ⟨g2,k1,k2⟩:=k7 h' hx' hd
    have hJ:J m a' w':=⟨d',g2,q,k1,k2⟩
    refine ⟨⟨m,hJ⟩,?_⟩
    rw [hmu,hm,dif_pos ⟨m,hJ⟩]
    have:=(Classical.choose_spec (Zu (⟨m,hJ⟩:∃ m,J m a' w'))).2 m hJ
    omega
   ·cases q
  | exit id=>exact Acd hnp hk q h' hx'
  | ret=>exact Acd hnp hk q h' hx'
def Db (P:Program) (R:Type) (n np:Nat) (pat:Nat→D9×(Nat→D9)) (L:Lt R pat) (c:Code):Prop:=
 ∀ (r:R) (B:Nat) (Iq:List Nat) (s0:St) (g0:Gh) (w0:World) (d:(pat (Dq c)).1.D) (g:Gh) (a:Act) (w:World) (k:Kt R) (Q:Exit→Act→World→Prop),
  (∀ e s' nid' g' a' w',k e s' nid'=some r→As n B Iq s' g' a' w'→Gx np B Iq s0 g0 w0 s' g' w'→Q e.to a' w')→L (Dq c) d k=some r→As n B Iq ((pat (Dq c)).1.st d) g a w→Gx np B Iq s0 g0 w0 ((pat (Dq c)).1.st d) g w→(Code.loop c).wp P Q a w
theorem Ahj {cfg:Cfg} {L:Lt R cfg.pat} (hm:P.follows .mixedOrders=true) (hs:Bd P cfg.sigs) (hn:cfg.n=n) (hnp:cfg.np=np):∀ (c:Code),(∀ c'∈Bx c,Db P R n np cfg.pat L c')→∀ {s:St} {g:Gh} {a:Act} {w:World} {nid:Nat} {k:Kt R} {Q:Exit→Act→World→Prop},
  (∀ e s' nid' g' a' w',k e s' nid'=some r→As n B Iq s' g' a' w'→Gx np B Iq s0 g0 w0 s' g' w'→Q e.to a' w')→
  ev P cfg L c s nid k=some r→As n B Iq s g a w→Gx np B Iq s0 g0 w0 s g w→c.wp P Q a w:=by
 intro c
 induction c with
 | skip=>intro hL s g a w nid k Q hk e h hx; exact wp_skip (hk .normal s nid g a w e h hx)
 | region id ops draw=>
  intro hL s g a w nid k Q hk e h hx
  simp only [ev] at e
  split at e
  ·rename_i q hq
   cases draw with
   | true=>cases e
   | false=>
    simp only [cond_false] at e
    refine wp_region_list ?_
    rw [Xm hq]
    exact Qi hs hn (fun s' g' a' w' e' h' hx'=>Agv hs hn hq (fun s2 g2 a2 w2 q2 h2 hx2=>hk .normal s2 _ g2 a2 w2 q2 h2 hx2) e' h' hx') e h hx
  ·exact Adc hm hs hn (fun s' g' a' w' q h' hx'=>hk .normal s' _ g' a' w' q h' hx') h hx e
 | seq x y ihx ihy=>
  intro hL s g a w nid k Q hk e h hx
  simp only [ev] at e
  refine wp_seq (ihx (fun c' hc'=>hL c' (List.mem_append_left _ hc')) (fun e' s' nid' g' a' w' q h' hx'=>?_) e h hx)
  cases e' with
  | normal=>exact ihy (fun c' hc'=>hL c' (List.mem_append_right _ hc')) hk q h' hx'
  | exit id=>exact hk (.exit id) s' nid' g' a' w' q h' hx'
  | ret=>exact hk .ret s' nid' g' a' w' q h' hx'
 | cond c x y ihx ihy=>
  intro hL s g a w nid k Q hk e h hx
  simp only [ev] at e
  split at e
  ·rename_i t ht
   refine wp_cond (t:=t) (Bn h ht).1 ?_
   cases t with
   | true=>rw [K4 ht] at e; exact ihx (fun c' hc'=>hL c' (List.mem_append_left _ hc')) hk e h hx
   | false=>rw [K4 ht] at e; exact ihy (fun c' hc'=>hL c' (List.mem_append_right _ hc')) hk e h hx
  ·cases e
 | block id c ih=>
  intro hL s g a w nid k Q hk e h hx
  simp only [ev] at e
  refine wp_block (ih hL (fun e' s' nid' g' a' w' q h' hx'=>?_) e h hx)
  cases e' with
  | normal=>exact hk .normal s' nid' g' a' w' q h' hx'
  | exit id'=>
   simp only at q
   show Exit.inBlock id Q (.exit id') a' w'
   unfold Exit.inBlock
   split at q
   ·rename_i hid
    simp only [hid,if_true]
    exact hk .normal s' nid' g' a' w' q h' hx'
   ·rename_i hid
    simp only [hid,if_false]
    exact hk (.exit id') s' nid' g' a' w' q h' hx'
  | ret=>exact hk .ret s' nid' g' a' w' q h' hx'
 | loop c ih=>
  intro hL s g a w nid k Q hk e h hx
  simp only [ev] at e
  split at e
  ·rename_i d hd
   subst hnp
   obtain ⟨g2,k1,k2⟩:=k7 h hx hd
   exact hL c (by simp [Bx]) r B Iq s0 g0 w0 d g2 a w k Q hk e k1 k2
  ·cases e
 | exit id=>intro hL s g a w nid k Q hk e h hx; exact wp_exit (hk (.exit id) s nid g a w e h hx)
 | ret=>intro hL s g a w nid k Q hk e h hx; exact wp_ret (hk .ret s nid g a w e h hx)
 | rangeFunc f params x y ihx ihy=>intro hL s g a w nid k Q hk e h hx; simp [ev] at e
 | scope c ih=>intro hL s g a w nid k Q hk e h hx; simp [ev] at e
 | label l=>intro hL s g a w nid k Q hk e h hx; simp [ev] at e
 | goto l=>intro hL s g a w nid k Q hk e h hx; simp [ev] at e
 | refuse why=>intro hL s g a w nid k Q hk e h hx; simp [ev] at e
end
theorem Ade {np:Nat} {cfg:Cfg} {L L':Lt R cfg.pat} {c:Code} (hm:P.follows .mixedOrders=true) (hs:Bd P cfg.sigs) (hn:cfg.n=n) (hnp:cfg.np=np)
  (hL:∀ d k (r:R),L (Dq c) d k=some r→∃ m,Uc np (cfg.pat (Dq c)) (fun s nid k=>ev P cfg L' c s nid k) m d k=some r) (hL':∀ c'∈Bx c,Db P R n np cfg.pat L' c'):Db P R n np cfg.pat L c:=by
 intro r B Iq s0 g0 w0 d g a w k Q hk e h hx
 obtain ⟨m,e⟩:=hL d k r e
 exact Agw rfl (fun hk' e' h' hx'=>Ahj hm hs hn hnp c hL' hk' e' h' hx') hk e h hx
end
end
section
def Mj (s:St):List Md→Nat→List Lf
 | [],_=>[]
 | .rd _::ps,id=>Mj s ps id
 | .own _ _::ps,id=>Mj s ps (id + 1)
 | .bx _ _::ps,id=>(match s.res id with | .box _ ls=>ls | _=>[])++Mj s ps (id + 1)
 | .mu _ _::ps,id=>Mj s ps (id + 1)
 | .nst _ _::ps,id=>Mj s ps (id + 1)
def bkD (s:St):(ps:List Md)→Nat→Option (Pq ps)
 | [],_=>some ()
 | .rd _::ps,id=>bkD s ps id
 | .own _ _::ps,id=>bkD s ps (id + 1)
 | .bx T t::ps,id=>match s.res id with
  | .box T' ls=>if T'=T then (match s.parse t ls with
   | some (z,[])=>(bkD s ps (id + 1)).bind fun q=>some (z,q)
   | _=>none) else none
  | _=>none
 | .mu e t::ps,id=>match s.res id with
  | .row e' t' xs=>if e'=e then (if h:t'=t then (bkD s ps (id + 1)).bind fun q=>some (h ▸ xs,q) else none) else none
  | _=>none
 | .nst e t::ps,id=>match s.res id with
  | .last e' t' xs c _=>bif c then none else (if e'=e then (if h:t'=t then (bkD s ps (id + 1)).bind fun q=>some (h ▸ xs,q) else none) else none)
  | _=>none
def Cr:List Md→Nat→List Nat
 | [],_=>[]
 | .rd _::ps,id=>Cr ps id
 | .own _ _::ps,id=>Cr ps (id + 1)
 | .bx _ _::ps,id=>id::Cr ps (id + 1)
 | .mu _ _::ps,id=>id::Cr ps (id + 1)
 | .nst _ _::ps,id=>id::Cr ps (id + 1)
def Adf (e0:NE) (t0:Ty) (l:Lf) (nid:Nat) (s:St):St×Lf:=match l with
 | .row id=>match s.res id with
  | .last e t xs c j=>match s.res j with
   | .row ej tj ys=>if h:tj=t then (if ej=e.i then ((s.setRes j .dead).setRes id (.last e t (C8 c xs (h ▸ ys)) false j),l) else (s,l)) else (s,l)
   | _=>(s,l)
  | .row e tt xs=>if e=e0.o then (match Agr e0.u t0 tt xs,s.res nid with
   | some [],.unborn=>((Bv s (some id)).setRes nid (.last e0 t0 [] false nid),.row nid)
   | _,_=>(s,l)) else (s,l)
  | _=>(s,l)
 | _=>(s,l)
def Fe:List Md→List Lf→Nat→St→St×List Lf
 | [],ls,_,s=>(s,ls)
 | .rd t::ms,ls,nid,s=>let q:=Fe ms (ls.drop t.sz) nid s; (q.1,ls.take t.sz++q.2)
 | .nst e t::ms,l::r,nid,s=>let p:=Adf e t l nid s; let q:=Fe ms r (nid + 1) p.1; (q.1,p.2::q.2)
 | .own _ _::ms,l::r,nid,s=>let q:=Fe ms r nid s; (q.1,l::q.2)
 | .bx _ _::ms,l::r,nid,s=>let q:=Fe ms r nid s; (q.1,l::q.2)
 | .mu _ _::ms,l::r,nid,s=>let q:=Fe ms r nid s; (q.1,l::q.2)
 | .nst _ _::_,[],_,s=>(s,[])
 | .own _ _::_,[],_,s=>(s,[])
 | .bx _ _::_,[],_,s=>(s,[])
 | .mu _ _::_,[],_,s=>(s,[])
def fin (P:Program) (sg:M5) (rv:List ResultVar):Kt (Ij sg.rs×Pq sg.ps):=fun e s nid=>match e with
 | .exit _=>none
 | _=>match G1 P s rv with
  | none=>none
  | some vs=>match y8 sg.rsh vs with
   | none=>none
   | some ls=>
    let s':=Fe sg.rs ls nid s
    let s:=s'.1
    let ls:=s'.2
    let sF:=s.frz (Cq s sg.rs ls++Mj s sg.ps 0)
    match D8 sF sg.rs ls with
    | none=>none
    | some q=>match bkD sF sg.ps 0 with
     | none=>none
     | some z=>bif Ir (Ai q.2++Cr sg.ps 0) then some (q.1,z) else none
def Ee (fn:Func):Code:=match fn.body with
 | some c=>c
 | none=>.skip
def Ih (sg:M5) (x:Ij sg.ps) (vs:List Vl):St:=⟨fun i=>match vs[i]? with | some v=>.vl v | none=>.dead,De sg.ps x 0 (fun _=>.unborn)⟩
def Aff (P:Program) (sigs:Tb) (pat:Nat→D9×(Nat→D9)) (sg:M5) (fn:Func) (L:Lt (Ij sg.rs×Pq sg.ps) pat) (x:Ij sg.ps):Option (Ij sg.rs×Pq sg.ps):=
 match fn.body,shV sg.psh (Yl sg.ps x 0) with
 | some c,some vs=>bif Nat.ble vs.length fn.ntmps then ev P ⟨sigs,C3 sg.ps,fn.ntmps,pat⟩ L c (Ih sg x vs) (C3 sg.ps) (fin P sg fn.results.toList) else none
 | _,_=>none
section
variable {P:Program} {n B:Nat} {Iq:List Nat} {s:St} {g:Gh} {a:Act} {w:World}
theorem Agx (h:As n B Iq s g a w) (e00:NE) (t0:Ty) (l:Lf) (nid:Nat) {u:Value} (hl:A7 s g w l u):∃ g',As n B Iq (Adf e00 t0 l nid s).1 g' a w∧Go B Iq s g w (Adf e00 t0 l nid s).1 g' w∧A7 (Adf e00 t0 l nid s).1 g' w (Adf e00 t0 l nid s).2 u:=by
 have stay:∃ g',As n B Iq s g' a w∧Go B Iq s g w s g' w∧A7 s g' w l u:=⟨g,h,Go.refl B Iq s g w,hl⟩
 unfold Adf
 split
 ·rename_i id
  split
  ·rename_i e t xs c j hr
   split
   ·rename_i ej tj ys hj
    split
    ·rename_i ht
     split
     ·rename_i hei
      subst ht
      subst hei
      obtain ⟨k1,k2,k3⟩:=Aeg h hr hj
      exact ⟨_,k3,⟨Kp.refl B Iq w,k1,k2,rfl⟩,A7.step k1 k2 hl⟩
     ·exact stay
    ·exact stay
   ·exact stay
  ·rename_i e0 tt xs hr
   split
   rotate_left
   ·exact stay
   rename_i he0
   split
   ·rename_i _ _ hys hf
    obtain ⟨htt,hxs⟩:=u7 hys
    subst htt
    subst hxs
    have r:=h.res id
    rw [hr] at r
    obtain ⟨cs,q1,q2,q3⟩:=r
    have q1:Cp w (.sl t0) 0 e00.o 1 (g.hdr id) 0 cs:=by
     refine (B3 (t:=.sl t0) rfl).2 ?_
     rw [← he0]
     have:=(B3 (z4 e00.u t0)).1 q1
     rw [V8] at this
     exact this
    simp only [A7,hr] at hl
    obtain ⟨m1,m2,m3,m4⟩:=h.growR (o:=some id) hf (v:=g.hdr id) (v':=g.hdr id) (w':=w) (r:=.last e00 t0 [] false nid) (I:=[]) (fun j q=>by
     cases q
     exact ⟨by rw [hr]; rfl,rfl,q3⟩) (fun q=>by cases q) (World.grownBy.refl w _) (.inl rfl) (fun b hb=>(h.lt id b (q3.trans hb)).1) (fun _ b hb=>by cases hb) (fun hS _=>by
     refine ⟨cs,?_,?_,?_,fun u hq=>by cases hq⟩
     ·have e1:(g.mv (some id) nid (g.hdr id)).hdr nid=g.hdr id:=by simp [Gh.mv]
      rw [e1]
      exact q1
     ·exact ⟨fun i x u hx=>(by cases hx),fun i _ _ _ _ hx=>absurd hx (Nat.not_lt_zero _)⟩
     ·simp [Gh.mv])
    refine ⟨_,m3,⟨m4,m1,m2,rfl⟩,?_⟩
    simp only [A7,Ab]
    rw [hl]
    simp [Gh.mv]
   ·exact stay
  ·exact stay
 ·exact stay
theorem O4:∀ {ms:List Md} {ls:List Lf} {nid:Nat} {s:St} {g:Gh} {cs:List Value},As n B Iq s g a w→C7 s g w ls cs→∃ g',As n B Iq (Fe ms ls nid s).1 g' a w∧Go B Iq s g w (Fe ms ls nid s).1 g' w∧C7 (Fe ms ls nid s).1 g' w (Fe ms ls nid s).2 cs
 | [],ls,nid,s,g,cs,h,hL=>⟨g,h,Go.refl B Iq s g w,hL⟩
 | .rd t::ms,ls,nid,s,g,cs,h,hL=>by
  obtain ⟨g2,m1,m2,m3⟩:=O4 (ms:=ms) (nid:=nid) h (hL.drop t.sz)
  have m2':=m2
  obtain ⟨_,hS,hI,_⟩:=m2'
  refine ⟨g2,m1,m2,?_⟩
  have:=C7.append ((hL.take t.sz).imp fun l u q=>A7.step hS hI q) m3
  rwa [List.take_append_drop] at this
 | .own _ _::ms,[],nid,s,g,cs,h,hL=>⟨g,h,Go.refl B Iq s g w,hL⟩
 | .bx _ _::ms,[],nid,s,g,cs,h,hL=>⟨g,h,Go.refl B Iq s g w,hL⟩
 | .mu _ _::ms,[],nid,s,g,cs,h,hL=>⟨g,h,Go.refl B Iq s g w,hL⟩
 | .nst _ _::ms,[],nid,s,g,cs,h,hL=>⟨g,h,Go.refl B Iq s g w,hL⟩
 | .own _ _::ms,l::ls,nid,s,g,[],h,hL=>hL.elim
 | .bx _ _::ms,l::ls,nid,s,g,[],h,hL=>hL.elim
 | .mu _ _::ms,l::ls,nid,s,g,[],h,hL=>hL.elim
 | .nst _ _::ms,l::ls,nid,s,g,[],h,hL=>hL.elim
 | .own _ _::ms,l::ls,nid,s,g,c::cs,h,hL=>by
  obtain ⟨g2,m1,m2,m3⟩:=O4 (ms:=ms) (nid:=nid) h hL.2
  have m2':=m2
  obtain ⟨_,hS,hI,_⟩:=m2'
  exact ⟨g2,m1,m2,⟨A7.step hS hI hL.1.1,hL.1.2⟩,m3⟩
 | .bx _ _::ms,l::ls,nid,s,g,c::cs,h,hL=>by
  obtain ⟨g2,m1,m2,m3⟩:=O4 (ms:=ms) (nid:=nid) h hL.2
  have m2':=m2
  obtain ⟨_,hS,hI,_⟩:=m2'
  exact ⟨g2,m1,m2,⟨A7.step hS hI hL.1.1,hL.1.2⟩,m3⟩
 | .mu _ _::ms,l::ls,nid,s,g,c::cs,h,hL=>by
  obtain ⟨g2,m1,m2,m3⟩:=O4 (ms:=ms) (nid:=nid) h hL.2
  have m2':=m2
  obtain ⟨_,hS,hI,_⟩:=m2'
  exact ⟨g2,m1,m2,⟨A7.step hS hI hL.1.1,hL.1.2⟩,m3⟩
 | .nst e t::ms,l::ls,nid,s,g,c::cs,h,hL=>by
  obtain ⟨g1,k1,k2,k3⟩:=Agx h e t l nid hL.1.1
  have k2':=k2
  obtain ⟨_,hS1,hI1,_⟩:=k2'
  obtain ⟨g2,m1,m2,m3⟩:=O4 (ms:=ms) (nid:=nid + 1) k1 (hL.2.imp fun l u q=>A7.step hS1 hI1 q)
  have m2':=m2
  obtain ⟨_,hS,hI,_⟩:=m2'
  exact ⟨g2,m1,k2.trans m2,⟨A7.step hS hI k3,hL.1.2⟩,m3⟩
theorem K5:∀ {ps:List Md} {id j:Nat},j∈Cr ps id→id≤j∧j < id + C3 ps
 | [],_,_,h=>by simp [Cr] at h
 | .rd _::ps,id,j,h=>K5 (ps:=ps) h
 | .own _ _::ps,id,j,h=>by
  have:=K5 (ps:=ps) h
  simp only [C3]
  omega
 | .bx _ _::ps,id,j,h=>by
  simp only [Cr,List.mem_cons] at h
  simp only [C3]
  rcases h with rfl | h
  ·omega
  ·have:=K5 (ps:=ps) h
   omega
 | .mu _ _::ps,id,j,h=>by
  simp only [Cr,List.mem_cons] at h
  simp only [C3]
  rcases h with rfl | h
  ·omega
  ·have:=K5 (ps:=ps) h
   omega
 | .nst _ _::ps,id,j,h=>by
  simp only [Cr,List.mem_cons] at h
  simp only [C3]
  rcases h with rfl | h
  ·omega
  ·have:=K5 (ps:=ps) h
   omega
theorem Zv (hres:∀ id,D1 s g w id (s.res id)) {g0:Gh}:∀ {ps:List Md} {id:Nat} {us:List Value} {y:Pq ps} {x:Ij ps} {w0:World} {S:Nat→Prop},bkD s ps id=some y→HR w0 S ps x us→
  (∀ j,j∈Cr ps id→(∀ T ls,s.res j=.box T ls→g.blk j=(B5 w0 ps us id g0).blk j)∧(∀ e,∀ t:Ty,∀ xs:List t.D,s.res j=.row e t xs→g.blk j=(B5 w0 ps us id g0).blk j∧g.hdr j=(B5 w0 ps us id g0).hdr j)∧((s.res j).nst=true→g.blk j=(B5 w0 ps us id g0).blk j∧g.hdr j=(B5 w0 ps us id g0).hdr j))→
  m0 w (By s g) ps y us∧Jo w ps us=Me w s g ((Cr ps id).map some)∧∀ j∈Cr ps id,(s.res j).live=true
 | [],_,_,_,_,_,_,_,_,_=>⟨trivial,rfl,by simp [Cr]⟩
 | .rd t::ps,id,us,y,x,w0,S,e,⟨c1,c2,h1,h2,h3⟩,hp=>by
  subst h1
  have hd:(c1++c2).drop t.sz=c2:=by rw [← Ty.K_len h2]; simp
  simp only [m0,Jo,hd]
  exact Zv (ps:=ps) (x:=x.2) hres e h3 (fun j q1=>by have:=hp j q1; simp only [B5,hd] at this; exact this)
 | .own e0 t::ps,id,us,y,x,w0,S,e,⟨u,c2,h1,h2,h3⟩,hp=>by
  subst h1
  simp only [m0,Jo,List.tail_cons]
  exact Zv (ps:=ps) (x:=x.2) hres e h3 (fun j q1=>by have:=hp j q1; simp only [B5,List.tail_cons] at this; exact this)
 | .bx T t::ps,id,us,y,x,w0,S,e,⟨b,c2,h1,h2,h3⟩,hp=>by
  subst h1
  simp only [bkD] at e
  split at e
  ·rename_i T' ls hr
   split at e
   ·rename_i hT
    split at e
    ·rename_i z hz
     obtain ⟨q,e1,e2⟩:=Al e
     cases e2
     subst hT
     have hb0:=(hp id (by simp [Cr])).1 T' ls hr
     simp only [B5,List.head?_cons,List.tail_cons] at hb0
     rw [(Ak w0 ps c2 (id + 1) _ id (by omega)).1] at hb0
     simp only [Aa] at hb0
     have hb:g.blk id=some b:=hb0
     have r:=hres id
     rw [hr] at r
     obtain ⟨b',cs,k1,k2,k3⟩:=r
     obtain rfl:b=b':=Option.some.inj (hb.symm.trans k1)
     obtain ⟨e3,k4⟩:=St.parse_K hres hz k3
     have hlen:cs.toList.take t.sz=cs.toList:=by
      apply List.take_of_length_le
      have:ls.length≤t.sz:=List.drop_eq_nil_iff.1 e3.symm
      rw [k3.length]; exact this
     rw [hlen] at k4
     obtain ⟨i1,i2,i3⟩:=Zv (ps:=ps) (x:=x.2) (us:=c2) hres e1 h3 (fun j q1=>by
      have:=hp j (by simp [Cr,q1])
      simp only [B5,List.tail_cons] at this
      exact this)
     refine ⟨⟨⟨b,rfl,cs,k2,k4⟩,i1⟩,?_,?_⟩
     ·simp only [Jo,Cr,List.map_cons,Me,List.head?_cons,Option.bind_some,List.tail_cons,Io,hb,i2,hr,Dj.nst0,cond_false,List.append_nil]
     ·intro j hj
      simp only [Cr,List.mem_cons] at hj
      rcases hj with rfl | hj
      ·rw [hr]; rfl
      ·exact i3 j hj
    ·cases e
   ·cases e
  ·cases e
 | .mu e0 t::ps,id,us,y,x,w0,S,e,⟨u,c2,h1,h2,h3⟩,hp=>by
  subst h1
  simp only [bkD] at e
  split at e
  ·rename_i e' t' xs hr
   split at e
   ·rename_i he
    split at e
    ·rename_i ht
     obtain ⟨q,e1,e2⟩:=Al e
     cases e2
     subst he ht
     obtain ⟨hb0,hh0⟩:=(hp id (by simp [Cr])).2.1 e' t' xs hr
     simp only [B5,List.head?_cons,List.tail_cons,List.headD_cons] at hb0 hh0
     rw [(Ak w0 ps c2 (id + 1) _ id (by omega)).1] at hb0
     rw [(Ak w0 ps c2 (id + 1) _ id (by omega)).2.1] at hh0
     simp only [Aa,Option.bind_some] at hb0 hh0
     have r:=hres id
     rw [hr] at r
     obtain ⟨cs,k1,k2,k3⟩:=r
     rw [hh0] at k1
     obtain ⟨i1,i2,i3⟩:=Zv (ps:=ps) (x:=x.2) (us:=c2) hres e1 h3 (fun j q1=>by
      have:=hp j (by simp [Cr,q1])
      simp only [B5,List.tail_cons] at this
      exact this)
     refine ⟨⟨⟨u,rfl,cs,k1,k2⟩,i1⟩,?_,?_⟩
     ·simp only [Jo,Cr,List.map_cons,Me,List.head?_cons,Option.bind_some,List.tail_cons,hb0,i2,hr,Dj.nst0,cond_false,List.append_nil]
     ·intro j hj
      simp only [Cr,List.mem_cons] at hj
      rcases hj with rfl | hj
      ·rw [hr]; rfl
      ·exact i3 j hj
    ·cases e
   ·cases e
  ·cases e
 | .nst e0 t::ps,id,us,y,x,w0,S,e,⟨u,c2,h1,h2,h3⟩,hp=>by
  subst h1
  simp only [bkD] at e
  split at e
  ·rename_i e' t' xs c j0 hr
   cases c with
   | true=>cases e
   | false=>
   simp only [cond_false] at e
   split at e
   ·rename_i he
    split at e
    ·rename_i ht
     obtain ⟨q,e1,e2⟩:=Al e
     cases e2
     subst he ht
     obtain ⟨hb0,hh0⟩:=(hp id (by simp [Cr])).2.2 (by rw [hr]; rfl)
     simp only [B5,List.head?_cons,List.tail_cons,List.headD_cons] at hb0 hh0
     rw [(Ak w0 ps c2 (id + 1) _ id (by omega)).1] at hb0
     rw [(Ak w0 ps c2 (id + 1) _ id (by omega)).2.1] at hh0
     simp only [Aa,Option.bind_some] at hb0 hh0
     have r:=hres id
     rw [hr] at r
     obtain ⟨cs,k1,k2,k3,_⟩:=r
     have k1:Cp w (.sl t') 0 e'.o 1 (g.hdr id) xs.length cs:=k1
     rw [hh0] at k1
     obtain ⟨i1,i2,i3⟩:=Zv (ps:=ps) (x:=x.2) (us:=c2) hres e1 h3 (fun j q1=>by
      have:=hp j (by simp [Cr,q1])
      simp only [B5,List.tail_cons] at this
      exact this)
     refine ⟨⟨⟨u,rfl,cs,k1,fun i z v q1 q2=>?_⟩,i1⟩,?_,?_⟩
     ·obtain ⟨ds,d1,d2,_⟩:=k2.row i z v q1 q2
      exact ⟨ds,d1,d2⟩
     ·simp only [Jo,Cr,List.map_cons,Me,List.head?_cons,Option.bind_some,List.tail_cons,List.headD_cons,hb0,hh0,i2,hr,Dj.nst0,Bool.not_false,cond_true]
     ·intro j hj
      simp only [Cr,List.mem_cons] at hj
      rcases hj with rfl | hj
      ·rw [hr]; rfl
      ·exact i3 j hj
    ·cases e
   ·cases e
  ·cases e
theorem Zw (a b:List (Option Nat)):Ai (a++b)=Ai a++Ai b:=by
 induction a with
 | nil=>rfl
 | cons x r ih=>cases x<;>simp [Ai,ih]
theorem Zx (l:List Nat):Ai (l.map some)=l:=by
 induction l with
 | nil=>rfl
 | cons x r ih=>simp [Ai,ih]
theorem Agy (w:World) (s:St) (g:Gh) (a b:List (Option Nat)):Me w s g (a++b)=Me w s g a++Me w s g b:=by
 induction a with
 | nil=>rfl
 | cons x r ih=>cases x<;>simp [Me,ih]
theorem Gt:∀ {ps:List Md} {x:Ij ps} {id j:Nat} {res:Nat→Dj},j∈Cr ps id→(De ps x id res j).live=true
 | [],_,_,_,_,h=>by simp [Cr] at h
 | .rd _::ps,x,id,j,res,h=>Gt (ps:=ps) h
 | .own e t::ps,x,id,j,res,h=>Gt (ps:=ps) h
 | .bx T t::ps,x,id,j,res,h=>by
  simp only [Cr,List.mem_cons] at h
  rcases h with rfl | h
  ·have:De (.bx T t::ps) x j res j=.box T (t.leafs x.1):=(Bb ps x.2 (j + 1) _ j (by omega)).trans (Aa _ _ _)
   rw [this]
   rfl
  ·exact Gt (ps:=ps) h
 | .mu e t::ps,x,id,j,res,h=>by
  simp only [Cr,List.mem_cons] at h
  rcases h with rfl | h
  ·have:De (.mu e t::ps) x j res j=.row e t x.1:=(Bb ps x.2 (j + 1) _ j (by omega)).trans (Aa _ _ _)
   rw [this]
   rfl
  ·exact Gt (ps:=ps) h
 | .nst e t::ps,x,id,j,res,h=>by
  simp only [Cr,List.mem_cons] at h
  rcases h with rfl | h
  ·have:De (.nst e t::ps) x j res j=.last e t x.1 false j:=(Bb ps x.2 (j + 1) _ j (by omega)).trans (Aa _ _ _)
   rw [this]
   rfl
  ·exact Gt (ps:=ps) h
theorem Afg {sigs:Tb} {pat:Nat→D9×(Nat→D9)} {f:FuncId} {fn:Func} {sg:M5} {den:Ij sg.ps→Option (Ij sg.rs×Pq sg.ps)} (hm:P.follows .mixedOrders=true) (hs:Bd P sigs)
  (hf : P.funcs[f]? = some fn) (hname : (fn.name == "runtime.NumGoroutine") = false) (hbody : fn.body.isNone = false) (hden : ∀ x r, den x = some r → ∃ L, (∀ c ∈ Bx (Ee fn), Db P (Ij sg.rs × Pq sg.ps) fn.ntmps (C3 sg.ps) pat L c) ∧ Aff P sigs pat sg fn L x = some r) : Es P f ∧ Tx P f sg den := by
 have sound:Tx P f sg den:=by
  intro x r hx w S us args hHR hSh hOwn
  obtain ⟨L,hLo,he⟩:=hden x r hx
  unfold Aff at he
  split at he
  ·rename_i c vs hb hvs
   have hbo:Ee fn=c:=by unfold Ee; rw [hb]
   rw [hbo] at hLo
   obtain ⟨hle,he⟩:=Gs he
   have hle:=Nat.le_of_ble_eq_true hle
   refine calls_of_wp hf hb ?_
   generalize hg0:B5 w sg.ps us 0 ⟨fun _=>none,fun _=>undef,fun b=>b < w.heap.size∧¬ S b∧b ∉ Bc w sg.ps us,fun _=>[]⟩=g0
   have hav:g0.av=fun b=>b < w.heap.size∧¬ S b∧b ∉ Bc w sg.ps us:=by rw [← hg0]; exact Jv _ _ _ _ _
   have hin:∀ j b,g0.blk j=some b→j < C3 sg.ps∧b∈Bc w sg.ps us:=by
    intro j b q
    by_cases hj:j < C3 sg.ps
    ·rw [← hg0] at q
     exact ⟨hj,Dv _ _ _ _ _ j b (by omega) (by omega) q⟩
    ·rw [← hg0,(Ak _ _ _ _ _ j (by omega)).1] at q
     cases q
   have hni:∀ j,((Ih sg x vs).res j).nst=true→j < C3 sg.ps:=fun j hn=>by
    rcases Ad8 sg.ps x 0 (fun _=>.unborn) j hn with q | q
    ·have:=q.2; omega
    ·cases q
   have hinn:∀ j b,((Ih sg x vs).res j).nst=true→g0.inn j b→b∈Bc w sg.ps us:=fun j b hn hi=>by
    have hi:b∈g0.innL j:=hi
    rw [← hg0] at hi
    exact Df w sg.ps x us 0 (fun _=>.unborn) _ j b (by omega) (by have:=hni j hn; omega) hn hi
   have hSof:∀ b,S b→b < w.heap.size→By (Ih sg x vs) g0 b:=by
    intro b hb _
    refine ⟨by rw [hav]; exact fun q=>q.2.1 hb,fun j _ q=>?_,fun j hn q=>(hOwn.2 b (hinn j b hn q)).2 hb⟩
    exact (hOwn.2 b (hin j b q).2).2 hb
   obtain ⟨hL,hR⟩:=Wj (s:=Ih sg x vs) (g:=g0) hSof sg.ps x us 0 (fun _=>.unborn) ⟨fun _=>none,fun _=>undef,fun b=>b < w.heap.size∧¬ S b∧b ∉ Bc w sg.ps us,fun _=>[]⟩ hHR hOwn.1 (fun j _ _=>⟨rfl,by rw [hg0],by rw [hg0],by rw [hg0]⟩)
   have hV:=Abm hvs hL hSh
   have hargs:args.length=vs.length:=hV.length
   have hent:As fn.ntmps w.heap.size (Bc w sg.ps us) (Ih sg x vs) g0 { tmps:=args.toArray++Array.replicate (fn.ntmps - args.toArray.size) undef,defers:=[] } w:=by
    refine ⟨by simp; omega,rfl,Nat.le_refl _,fun i=>?_,fun j=>?_,fun i j b q1 q2=>?_,fun j b q=>?_,fun b q=>?_,fun j b hn hi=>?_⟩
    ·show Jn _ _ _ (match vs[i]? with | some v=>.vl v | none=>.dead) _
     cases hi:vs[i]? with
     | none=>trivial
     | some v=>
      obtain ⟨u,e1,e2⟩:=hV.get hi
      have hlt:=(List.getElem?_eq_some_iff.1 e1).1
      have:(args.toArray++Array.replicate (fn.ntmps - args.toArray.size) undef).getD i undef=u:=by
       rw [Array.getD_eq_getD_getElem?,Array.getElem?_append_left (by simpa using hlt),List.getElem?_toArray,e1]
       rfl
      rw [this]
      exact e2
    ·by_cases hj:j < C3 sg.ps
     ·exact (hR j (by omega) (by omega)).1
     ·have h1:(Ih sg x vs).res j=.unborn:=Bb _ _ _ _ j (by omega)
      rw [h1]
      show g0.blk j=none
      cases hq:g0.blk j with
      | none=>rfl
      | some b=>exact absurd (hin j b hq).1 hj
    ·rw [← hg0] at q1 q2
     refine Ip _ _ _ _ _ i j b hOwn.1 (by omega) ?_ (by omega) ?_ q1 q2
     ·rw [hg0] at q1; have:=(hin i b q1).1; omega
     ·rw [hg0] at q2; have:=(hin j b q2).1; omega
    ·have:=(hin j b q).2
     exact ⟨(hOwn.2 b this).1,.inl this,by rw [hav]; exact fun q=>q.2.2 this⟩
    ·rw [hav] at q
     exact q.1
    ·have hb:=hinn j b hn hi
     have hjl:=hni j hn
     refine ⟨⟨(hOwn.2 b hb).1,.inl hb,by rw [hav]; exact fun q=>q.2.2 hb⟩,fun k hk=>?_,fun k hne hnk hik=>?_⟩
     ·have hkl:=(hin k b hk).1
      have hi:b∈g0.innL j:=hi
      rw [← hg0] at hi hk
      exact (Ez w sg.ps x us 0 (fun _=>.unborn) _ j k b hOwn.1 (by omega) (by omega) (by omega) (by omega) hn hi).1 hk
     ·have hkl:=hni k hnk
      have hi:b∈g0.innL j:=hi
      have hik:b∈g0.innL k:=hik
      rw [← hg0] at hi hik
      exact (Ez w sg.ps x us 0 (fun _=>.unborn) _ j k b hOwn.1 (by omega) (by omega) (by omega) (by omega) hn hi).2 hne hnk hik
   have hgx:Gx (C3 sg.ps) w.heap.size (Bc w sg.ps us) (Ih sg x vs) g0 w (Ih sg x vs) g0 w:=by
    refine ⟨Kp.refl _ _ _,rfl,fun id _ hl=>⟨fun q=>(by rw [q] at hl; cases hl),fun T ls q=>⟨⟨T,ls,q⟩,rfl⟩,fun e t xs q=>⟨⟨e,xs,q⟩,rfl,rfl⟩,fun q=>⟨q,rfl,rfl⟩⟩⟩
   refine Ahj (r:=r) (Q:=bodyPost P fn _) (cfg:=⟨sigs,C3 sg.ps,fn.ntmps,pat⟩) (L:=L) hm hs rfl rfl c hLo (fun e s' nid' g' a' w' hk hR' hX'=>?_) he hent hgx
   have hfin:∀ {vs':List Vl} {ls:List Lf} {q:Ij sg.rs×List (Option Nat)} {z:Pq sg.ps},G1 P s' fn.results.toList=some vs'→y8 sg.rsh vs'=some ls→
     D8 ((Fe sg.rs ls nid' s').1.frz (Cq (Fe sg.rs ls nid' s').1 sg.rs (Fe sg.rs ls nid' s').2++Mj (Fe sg.rs ls nid' s').1 sg.ps 0)) sg.rs (Fe sg.rs ls nid' s').2=some q→bkD ((Fe sg.rs ls nid' s').1.frz (Cq (Fe sg.rs ls nid' s').1 sg.rs (Fe sg.rs ls nid' s').2++Mj (Fe sg.rs ls nid' s').1 sg.ps 0)) sg.ps 0=some z→Ir (Ai q.2++Cr sg.ps 0)=true→
     a'.defers=[]∧∃ v,(results fn a'.tmps).run P w'=.ok v w'∧∃ vs us',Ending.returned v=.returned (d6 vs)∧ShR sg.rsh vs us'∧Fm (Bc w sg.ps us) w w'∧
      HR w' (Tw w S (Bc w sg.ps us) (Bc w' sg.rs us'++Jo w' sg.ps us)) sg.rs q.1 us'∧m0 w' (Tw w S (Bc w sg.ps us) (Bc w' sg.rs us'++Jo w' sg.ps us)) sg.ps z us∧
      (Bc w' sg.rs us'++Jo w' sg.ps us).Nodup∧∀ b∈Bc w' sg.rs us'++Jo w' sg.ps us,b < w'.heap.size∧(b∈Bc w sg.ps us∨w.heap.size≤b):=by
    intro vs' ls q z h1 h2 h3 h4 h5
    obtain ⟨us1,r1,r2⟩:=T6 hR' h1
    obtain ⟨cs,hsh,hL'⟩:=Abl h2 r2
    obtain ⟨gM,hM,goM,hlm⟩:=O4 (ms:=sg.rs) (ls:=ls) (nid:=nid') hR' hL'
    obtain ⟨gF,hF,goF,hlf,hhF⟩:=C9 (ls:=Cq (Fe sg.rs ls nid' s').1 sg.rs (Fe sg.rs ls nid' s').2++Mj (Fe sg.rs ls nid' s').1 sg.ps 0) hM
    have hXF:=(hX'.step goM).step goF
    have hLF:=hlm.imp hlf
    obtain ⟨k1,k2,k3⟩:=Wk hF.res (x:=q.1) (ow:=q.2) h3 hLF
    obtain ⟨b1,b2,b3⟩:=Zv hF.res (g0:=⟨fun _=>none,fun _=>undef,fun b=>b < w.heap.size∧¬ S b∧b ∉ Bc w sg.ps us,fun _=>[]⟩) (x:=x) (us:=us) h4 hHR (fun j q1=>by
     have hj:=K5 q1
     obtain ⟨_,p2,p3,p4⟩:=hXF.pin j (show j < C3 sg.ps by omega) (Gt q1)
     rw [hg0]
     exact ⟨fun T bl q2=>(p2 T bl q2).2,fun e t xs q2=>(p3 e t xs q2).2,fun q2=>(p4 q2).2⟩)
    have hnd:=Ra h5
    have hgone:Bc w' sg.rs cs++Jo w' sg.ps us=Me w' ((Fe sg.rs ls nid' s').1.frz (Cq (Fe sg.rs ls nid' s').1 sg.rs (Fe sg.rs ls nid' s').2++Mj (Fe sg.rs ls nid' s').1 sg.ps 0)) gF (q.2++(Cr sg.ps 0).map some):=by rw [k2,b2,Agy]
    have hS2:∀ b,By ((Fe sg.rs ls nid' s').1.frz (Cq (Fe sg.rs ls nid' s').1 sg.rs (Fe sg.rs ls nid' s').2++Mj (Fe sg.rs ls nid' s').1 sg.ps 0)) gF b→b < w'.heap.size→Tw w S (Bc w sg.ps us) (Bc w' sg.rs cs++Jo w' sg.ps us) b:=by
     rintro b ⟨q1,q2⟩ _
     rw [hXF.av,hav] at q1
     refine ⟨?_,fun hq=>?_⟩
     ·by_cases c1:S b
      ·exact .inl c1
      ·by_cases c2:b∈Bc w sg.ps us
       ·exact .inr (.inl c2)
       ·right; right
        rcases Nat.lt_or_ge b w.heap.size with c3 | c3
        ·exact absurd ⟨c3,c1,c2⟩ q1
        ·exact c3
     ·rw [hgone] at hq
      obtain ⟨id,p1,p2 | ⟨p2,p3⟩⟩:=Jx.1 hq
      ·rw [Zw,Zx] at p1
       rcases List.mem_append.1 p1 with p1 | p1
       ·exact q2.1 id (k3 id p1) p2
       ·exact q2.1 id (b3 id p1) p2
      ·exact q2.2 id (Dj.nst_of0 p2) ((Sp hF.res p2).1 _ p3)
    refine ⟨hR'.defers,_,r1,us1,cs,rfl,hsh,⟨hX'.kp.os,hX'.kp.tape,hX'.kp.output,hX'.kp.size,fun k q1 q2=>hX'.kp.block k q1 q2⟩,P6 (.inr hS2) k1,Lw (.inr hS2) b1,?_,fun b hb=>?_⟩
    ·rw [hgone]
     exact Ot hF (by rw [Zw,Zx]; exact hnd)
    ·rw [hgone] at hb
     obtain ⟨id,p1,p2 | ⟨p2,p3⟩⟩:=Jx.1 hb
     ·obtain ⟨q1,q2,_⟩:=hF.lt id b p2
      exact ⟨q1,q2⟩
     ·obtain ⟨⟨q1,q2,_⟩,_⟩:=hF.inn id b (Dj.nst_of0 p2) ((Sp hF.res p2).1 _ p3)
      exact ⟨q1,q2⟩
   have hend:∀ (e:Ex),(∀ id,e≠.exit id)→(match G1 P s' fn.results.toList with
     | none=>none
     | some vs=>match y8 sg.rsh vs with
      | none=>none
      | some ls=>
       let s1:=Fe sg.rs ls nid' s'
       let sF:=s1.1.frz (Cq s1.1 sg.rs s1.2++Mj s1.1 sg.ps 0)
       match D8 sF sg.rs s1.2 with
       | none=>none
       | some q=>match bkD sF sg.ps 0 with
        | none=>none
        | some z=>bif Ir (Ai q.2++Cr sg.ps 0) then some (q.1,z) else none)=some r→bodyPost P fn (fun e w'=>∃ vs us',e=.returned (d6 vs)∧ShR sg.rsh vs us'∧Fm (Bc w sg.ps us) w w'∧
       HR w' (Tw w S (Bc w sg.ps us) (Bc w' sg.rs us'++Jo w' sg.ps us)) sg.rs r.1 us'∧m0 w' (Tw w S (Bc w sg.ps us) (Bc w' sg.rs us'++Jo w' sg.ps us)) sg.ps r.2 us∧
       (Bc w' sg.rs us'++Jo w' sg.ps us).Nodup∧∀ b∈Bc w' sg.rs us'++Jo w' sg.ps us,b < w'.heap.size∧(b∈Bc w sg.ps us∨w.heap.size≤b)) e.to a' w':=by
    intro e hne h
    split at h
    ·cases h
    ·rename_i vs' h1
     split at h
     ·cases h
     ·rename_i ls h2
      dsimp only at h
      split at h
      ·cases h
      ·rename_i q h3
       split at h
       ·cases h
       ·rename_i z h4
        obtain ⟨h5,h6⟩:=Gs h
        cases h6
        obtain ⟨f1,v,f2,f3⟩:=hfin h1 h2 h3 h4 h5
        cases e with
        | normal=>exact ⟨f1,v,f2,f3⟩
        | ret=>exact ⟨f1,v,f2,f3⟩
        | exit id=>exact absurd rfl (hne id)
   cases e with
   | normal=>exact hend .normal (fun id q=>by cases q) hk
   | ret=>exact hend .ret (fun id q=>by cases q) hk
   | exit id=>cases hk
  ·cases he
 exact ⟨⟨fn,hf,hname,hbody⟩,sound⟩
def Mk:Nat→D9×(Nat→D9):=fun _=>(⟨[],[],[]⟩,fun _=>⟨[],[],[]⟩)
def Tc {R:Type} {pat:Nat→D9×(Nat→D9)}:Lt R pat:=fun _ _ _=>none
def Qj {R:Type} {pat:Nat→D9×(Nat→D9)} (key:Nat) (F:(pat key).1.D→Kt R→Option R) (L:Lt R pat):Lt R pat:=fun j d k=>if h:j=key then F (h ▸ d) k else L j d k
abbrev nI (n:Nat):Int:=(n:Int)
def Fj {α β γ:Type} (f:α→γ) (g:β→γ):α ⊕ β→γ
 | .inl a=>f a
 | .inr b=>g b
theorem Afh {R:Type} {np n:Nat} {cfg:Cfg} {L:Lt R cfg.pat} {c:Code} {key:Nat} (hkey:Dq c=key) (hm:P.follows .mixedOrders=true) (hs:Bd P cfg.sigs) (hn:cfg.n=n) (hnp:cfg.np=np)
  (hL:∀ d k (r:R),L key d k=some r→∃ m,Uc np (cfg.pat key) (fun s nid k=>ev P cfg L c s nid k) m d k=some r) (hL':∀ c'∈Bx c,Db P R n np cfg.pat L c'):Db P R n np cfg.pat L c:=by
 subst hkey
 exact Ade hm hs hn hnp hL hL'
theorem Aa3 {α β γ δ:Type} (f:α→Option γ) (g:β→Option γ) (o:α ⊕ β) (h:γ→Option δ):(Fj f g o).bind h=Fj (fun a=>(f a).bind h) (fun b=>(g b).bind h) o:=by cases o<;>rfl
theorem Afi {α β:Type} (c:Prop) [Decidable c] (x y:Option α) (f:α→Option β):(if c then x else y).bind f=if c then x.bind f else y.bind f:=by split<;>rfl
theorem Adg {α β:Type} (c:Bool) (x y:Option α) (f:α→Option β):(bif c then x else y).bind f=bif c then x.bind f else y.bind f:=by cases c<;>rfl
end
end
section
def Afj {D E O:Type} (left:D→List E) (stp:D→E→List E→Option D) (fin:D→Option O):Nat→D→O→Prop
 | 0,_,_=>False
 | m + 1,d,r=>(left d=[]→fin d=some r)∧∀ (i:Nat) (e:E),(left d)[i]? = some e→∃ d',stp d e ((left d).eraseIdx i)=some d'∧Afj left stp fin m d' r
theorem Afj.one {D E O:Type} {left:D→List E} {stp:D→E→List E→Option D} {fin:D→Option O}:∀ {m m':Nat} {d:D} {r r':O},Afj left stp fin m d r→Afj left stp fin m' d r'→r=r'
 | 0,_,_,_,_,h,_=>h.elim
 | _,0,_,_,_,_,h=>h.elim
 | m + 1,m' + 1,d,r,r',h,k=>by
  cases hl:left d with
  | nil=>exact Option.some.inj ((h.1 hl).symm.trans (k.1 hl))
  | cons e l=>
   obtain ⟨d1,e1,h1⟩:=h.2 0 e (by rw [hl]; rfl)
   obtain ⟨d2,e2,h2⟩:=k.2 0 e (by rw [hl]; rfl)
   obtain rfl:d1=d2:=Option.some.inj (e1.symm.trans e2)
   exact Afj.one h1 h2
section
variable {P:Program} {n B:Nat} {Iq:List Nat} {s:St} {g:Gh} {a:Act} {w:World}
end
section
variable {R:Type} {P:Program} {n np B:Nat} {Iq:List Nat} {s0:St} {g0:Gh} {w0:World} {r:R}
end
end
open Go Go.RowKit Go.WideShapes
section
def Agz (f:TypeId→Option Ty):List Field→Nat→Option Ty
 | [],_=>some .unit
 | d::r,off=>if d.offset=off then (f d.type).bind fun a=>(Agz f r (off + a.sz)).bind fun b=>some (.pair a b) else none
def tyG (P:Program):Nat→TypeId→Option Ty
 | 0,_=>none
 | k + 1,t=>match P.underlying t with
  | some (.int i)=>some (.int i)
  | some .bool=>some .bool
  | some .string=>some .str
  | some (.slice e)=>(tyG P k e).bind fun a=>if 0 < a.sz then (if 0 < P.bytesOf e then some (.sl a) else none) else none
  | some (.struct fs)=>(Agz (tyG P k) fs.toList 0).bind fun a=>if P.cellsOf t=a.sz then some a else none
  | _=>none
def Ry:(t:Ty)→t.D→Prop
 | .int k,n=>(Lit.int k n).wf=true
 | .bool,_=>True
 | .str,s=>ByteArray.size s≤reachBytes
 | .sl t,xs=>List.length xs≤reachBytes∧∀ (i:Nat) (x:t.D),y7 (α:=t.D) xs i=some x→Ry t x
 | .unit,_=>True
 | .pair a b,x=>Ry a x.1∧Ry b x.2
theorem v9 {α:Type} {n:Nat} {f:Fin n→α} {i:Nat} {x:α} (h:y7 (List.ofFn f) i=some x):∃ hi:i < n,f ⟨i,hi⟩=x:=by
 unfold y7 at h
 rw [List.getElem?_ofFn] at h
 split at h
 ·rename_i hi
  exact ⟨hi,Option.some.inj h⟩
 ·cases h
section
variable {H:Type} {enc:TypeId×Value→H} {P:Program} {w:World} {spare:Nat→Bool} {held:Bool}
theorem N0 {e:TypeId}:∀ {ds:List (DataW H)} {i:Nat} {d:DataW H},ds[i]? = some d→∀ n∈d.weights P e,n∈DataW.weightsAll P e ds
 | [],i,d,h,_,_=>by simp at h
 | d0::r,0,d,h,n,hn=>by
  simp at h
  subst h
  simp only [DataW.weightsAll,List.mem_append]
  exact .inl hn
 | d0::r,i + 1,d,h,n,hn=>by
  simp only [DataW.weightsAll,List.mem_append]
  exact .inr (N0 (i:=i) (by simpa using h) n hn)
theorem Ag0 {a:Addr} {v:Value} (h:w.cell? a=some v):a.block < w.heap.size:=by
 unfold World.cell? at h
 cases hq:w.heap[a.block]? with
 | none=>rw [hq] at h; simp at h
 | some o=>exact (Array.getElem?_eq_some_iff.1 hq).1
theorem Ah9:∀ {k:Nat} {T:TypeId} {t:Ty},tyG P k T=some t→∀ {fuel:Nat} {cs:List Value} {x:DataW H×List MemPlace},DataW.trod enc P w 0 spare held fuel T cs=some x→
  (∀ n∈x.1.weights P T,n≤reachBytes)→∃ y:t.D,t.K w (fun _=>True) y cs∧Ry t y:=by
 intro k
 induction k with
 | zero=>intro T t h; cases h
 | succ k ih=>
  intro T t h fuel cs x hx hw
  simp only [tyG] at h
  split at h
  ·rename_i i hU
   cases h
   obtain ⟨n,rfl,rfl,h3⟩:=DataW.trod_int hU hx
   exact ⟨n,rfl,h3⟩
  ·rename_i hU
   cases h
   obtain ⟨b,rfl,rfl⟩:=DataW.trod_bool hU hx
   exact ⟨b,rfl,trivial⟩
  ·rename_i hU
   cases h
   obtain ⟨s,rfl,rfl,h3⟩:=DataW.trod_string hU hx
   refine ⟨s,rfl,?_⟩
   have:=hw s.data.toList.length (by simp [DataW.weights])
   rw [Array.length_toList] at this
   exact this
  ·rename_i e hU
   obtain ⟨a,ha,h2⟩:=Al h
   split at h2
   ·rename_i hpos
    split at h2<;>cases h2
    rename_i hby
    rcases DataW.trod_slice hU hx with ⟨rfl,rfl⟩ | ⟨ad,len,cap,elems,rest,n,rfl,rfl,rfl,hb,hl,hc,hlen,hel,_,_⟩
    ·exact ⟨([]:List a.D),⟨none,0,rfl,Nat.le_refl _,fun i y hy=>by simp [y7] at hy⟩,by simp,fun i y hy=>by simp [y7] at hy⟩
    ·have hwl:(elems.length + rest.length) * P.bytesOf e≤reachBytes:=by
      have:=hw ((elems.length + rest.length) * P.bytesOf e) (by simp [DataW.weights,hU])
      simpa using this
     have one:∀ i:Fin len,∃ y:a.D,(∃ cs',cs'.length=a.sz∧a.K w (fun _=>True) y cs'∧ad.block < w.heap.size∧∀ (j:Nat) (u:Value),cs'[j]? = some u→w.cell? (ad.add (i.1 * a.sz + j))=some u)∧Ry a y:=by
      intro i
      have hi:=hel i.1 i.2
      rw [List.getElem?_eq_getElem (by omega)] at hi
      obtain ⟨cs',h1,h2⟩:=Al hi
      obtain ⟨y,k1,k2⟩:=ih ha h2 (fun m hm=>hw m (by
       simp only [DataW.weights,hU,List.mem_cons,List.mem_append]
       refine .inr (.inl (N0 (i:=i.1) (d:=(elems[i.1]'(by omega)).1) ?_ m hm))
       rw [List.getElem?_map,List.getElem?_eq_getElem (by omega)]
       rfl))
      have hsz:=Ty.K_len k1
      obtain ⟨_,c2,c3⟩:=World.cells?_some h1
      have hcell:P.cellsOf e=a.sz:=by omega
      have hall:∀ (j:Nat) (u:Value),cs'[j]? = some u→w.cell? (ad.add (i.1 * a.sz + j))=some u:=by
       intro j u hu
       have hj:=(List.getElem?_eq_some_iff.1 hu).1
       have:=c3 j (by omega)
       rw [Vd,hcell] at this
       rw [this,hu]
      refine ⟨y,⟨cs',hsz,k1,?_,hall⟩,k2⟩
      have h0:cs'[0]? = some (cs'[0]'(by omega)):=List.getElem?_eq_getElem (by omega)
      have:=Ag0 (hall 0 _ h0)
      rwa [Ks] at this
     refine ⟨(List.ofFn fun i=>Classical.choose (one i):List a.D),⟨some ad,cap,by rw [List.length_ofFn],by rw [List.length_ofFn]; exact hl,fun i y hy=>?_⟩,?_,fun i y hy=>?_⟩
     ·obtain ⟨hi,rfl⟩:=v9 hy
      obtain ⟨⟨cs',q1,q2,q3,q4⟩,_⟩:=Classical.choose_spec (one ⟨i,hi⟩)
      exact ⟨ad,rfl,trivial,q3,cs',q1,q2,q4⟩
     ·rw [List.length_ofFn]
      have:elems.length * 1≤(elems.length + rest.length) * P.bytesOf e:=Nat.mul_le_mul (by omega) hby
      omega
     ·obtain ⟨hi,rfl⟩:=v9 hy
      exact (Classical.choose_spec (one ⟨i,hi⟩)).2
   ·cases h2
  ·rename_i fs hU
   obtain ⟨a,ha,h2⟩:=Al h
   split at h2<;>cases h2
   rename_i hsz
   obtain ⟨xs,n,rfl,rfl,hcl,hxl,hf⟩:=DataW.trod_struct hU hx
   have hwE:∀ m∈DataW.weightsEach P (fs.toList.map (·.type)) (xs.map (·.1)),m≤reachBytes:=fun m hm=>hw m (by simpa [DataW.weights,hU] using hm)
   have go:∀ (l:List Field) (off:Nat) (b:Ty) (ys:List (DataW H×List MemPlace)),Agz (tyG P k) l off=some b→ys.length=l.length→
     (∀ (i:Nat) (f:Field),l[i]? = some f→DataW.trod enc P w 0 spare held n f.type ((cs.drop f.offset).take (P.cellsOf f.type))=ys[i]?)→
     (∀ m∈DataW.weightsEach P (l.map (·.type)) (ys.map (·.1)),m≤reachBytes)→∃ y:b.D,b.K w (fun _=>True) y ((cs.drop off).take b.sz)∧Ry b y:=by
    intro l
    induction l with
    | nil=>
     intro off b ys hb _ _ _
     cases hb
     exact ⟨(),by show _=[]; simp [Ty.sz],trivial⟩
    | cons f r ihl=>
     intro off b ys hb hlen hall hwts
     simp only [Agz] at hb
     split at hb
     ·rename_i hoff
      obtain ⟨b1,hb1,hb⟩:=Al hb
      obtain ⟨b2,hb2,hb⟩:=Al hb
      cases hb
      cases ys with
      | nil=>simp at hlen
      | cons y0 ys=>
       have h0:=hall 0 f rfl
       simp only [List.getElem?_cons_zero] at h0
       obtain ⟨y1,k1,f1⟩:=ih hb1 h0 (fun m hm=>hwts m (by simp only [List.map_cons,DataW.weightsEach,List.mem_append]; exact .inl hm))
       obtain ⟨y2,k2,f2⟩:=ihl (off + b1.sz) b2 ys hb2 (by simpa using hlen) (fun i f' hi=>by have:=hall (i + 1) f' (by simpa using hi); simpa using this) (fun m hm=>hwts m (by simp only [List.map_cons,DataW.weightsEach,List.mem_append]; exact .inr hm))
       have e1:(cs.drop f.offset).take (P.cellsOf f.type)=(cs.drop off).take b1.sz:=by
        have hl1:=Ty.K_len k1
        rw [hoff] at hl1 ⊢
        rw [List.length_take] at hl1
        rcases Nat.le_total (P.cellsOf f.type) (cs.drop off).length with q | q
        ·rw [Nat.min_eq_left q] at hl1
         rw [hl1]
        ·rw [Nat.min_eq_right q] at hl1
         rw [List.take_of_length_le q,List.take_of_length_le (by omega)]
       rw [e1] at k1
       refine ⟨(y1,y2),⟨(cs.drop off).take b1.sz,(cs.drop (off + b1.sz)).take b2.sz,?_,k1,k2⟩,f1,f2⟩
       show (cs.drop off).take (b1.sz + b2.sz)=_
       rw [List.take_add,List.drop_drop]
     ·cases hb
   obtain ⟨y,k1,k2⟩:=go fs.toList 0 t xs ha (by simpa using hxl) (fun i f hi=>hf i f (by simpa using hi)) hwE
   refine ⟨y,?_,k2⟩
   rw [List.drop_zero,List.take_of_length_le (by omega)] at k1
   exact k1
  ·cases h
def Aa4 (P:Program) (T:TypeId):Option Nat:=match P.underlying T with
 | some (.struct _)=>some (P.cellsOf T)
 | _=>none
def rds:List Ty→List Md
 | []=>[]
 | t::r=>.rd t::rds r
def Afl:(ts:List Ty)→Ij (rds ts)→Prop
 | [],_=>True
 | t::r,x=>Ry t x.1∧Afl r x.2
def Aia (P:Program):List TypeId→Option (List Ty)
 | []=>some []
 | T::r=>(tyG P 12 T).bind fun t=>(Aia P r).bind fun l=>some (t::l)
theorem Rz (w:World):∀ (ts:List Ty) (us:List Value),Bc w (rds ts) us=[]
 | [],_=>rfl
 | t::r,us=>Rz w r _
theorem k9 {b0:Nat} {T:TypeId} {t:Ty} (h:tyG P 12 T=some t) {v:Value} (hv:Value.okWide P w .any b0 T v):∃ cs,ShR [Aa4 P T] [v] cs∧cs=v.cells.toList:=by
 unfold tyG at h
 unfold Aa4
 split at h
 ·rename_i i hU
  obtain ⟨n,rfl⟩:=okWide_int hU hv
  rw [hU]
  exact ⟨_,⟨_,[],[],rfl,rfl,rfl,rfl,rfl⟩,rfl⟩
 ·rename_i hU
  obtain ⟨n,rfl⟩:=okWide_bool hU hv
  rw [hU]
  exact ⟨_,⟨_,[],[],rfl,rfl,rfl,rfl,rfl⟩,rfl⟩
 ·rename_i hU
  obtain ⟨n,rfl⟩:=okWide_string hU hv
  rw [hU]
  exact ⟨_,⟨_,[],[],rfl,rfl,rfl,rfl,rfl⟩,rfl⟩
 ·rename_i e hU
  obtain ⟨a,l,c,rfl⟩:=okWide_slice hU hv
  rw [hU]
  exact ⟨_,⟨_,[],[],rfl,rfl,rfl,rfl,rfl⟩,rfl⟩
 ·rename_i fs hU
  obtain ⟨cs,rfl,hs⟩:=okWide_struct hU hv
  rw [hU]
  exact ⟨cs.toList,⟨cs,[],[],rfl,(List.append_nil _).symm,hs,rfl,rfl⟩,rfl⟩
 ·cases h
theorem Afm {x:Option Nat} {sh:List (Option Nat)} {v:Value} {vs c1 c2:List Value} (h1:ShR [x] [v] c1) (h2:ShR sh vs c2):ShR (x::sh) (v::vs) (c1++c2):=by
 cases x with
 | none=>
  obtain ⟨u,us',cs',e1,e2,e3,e4,e5⟩:=h1
  subst e4 e5
  cases e1
  subst e2
  exact ⟨v,vs,c2,rfl,rfl,e3,h2⟩
 | some k=>
  obtain ⟨c,us',cs',e1,e2,e3,e4,e5⟩:=h1
  subst e4 e5
  cases e1
  subst e2
  exact ⟨c,vs,c2,rfl,by rw [List.append_nil],e3,h2⟩
theorem Zy {b0:Nat}:∀ {Ts:List TypeId} {ts:List Ty},Aia P Ts=some ts→∀ {vs:List Value} {ds:List (DataW H)} {ps:List MemPlace},DataW.TrodAll enc P w 0 spare held Ts vs ds ps→
  (∀ (j:Nat) T v,Ts[j]? = some T→vs[j]? = some v→Value.okWide P w .any b0 T v)→(∀ n∈DataW.weightsEach P Ts ds,n≤reachBytes)→
  ∃ (x:Ij (rds ts)) (us:List Value),HR w (fun _=>True) (rds ts) x us∧ShR (Ts.map (Aa4 P)) vs us∧Afl ts x
 | [],ts,h,vs,ds,ps,hT,_,_=>by
  cases h
  obtain ⟨rfl,rfl,rfl⟩:=Go.ChangeShapes.trodAll_nil hT
  exact ⟨(),[],rfl,⟨rfl,rfl⟩,trivial⟩
 | T::Ts,ts,h,vs,ds,ps,hT,hok,hw=>by
  simp only [Aia] at h
  obtain ⟨t,h1,h⟩:=Al h
  obtain ⟨l,h2,h⟩:=Al h
  cases h
  obtain ⟨v,vs',d,ds',p,q,rfl,rfl,rfl,⟨fuel,k1⟩,k2⟩:=Go.ChangeShapes.trodAll_cons hT
  obtain ⟨y,q1,q2⟩:=Ah9 h1 k1 (fun n hn=>hw n (by simp only [DataW.weightsEach,List.mem_append]; exact .inl hn))
  obtain ⟨x,us,r1,r2,r3⟩:=Zy h2 k2 (fun j T' v' e1 e2=>hok (j + 1) T' v' (by simpa using e1) (by simpa using e2)) (fun n hn=>hw n (by simp only [DataW.weightsEach,List.mem_append]; exact .inr hn))
  obtain ⟨cs,s1,rfl⟩:=k9 h1 (hok 0 T v rfl rfl)
  exact ⟨(y,x),v.cells.toList++us,⟨_,_,rfl,q1,r1⟩,Afm s1 r2,q2,r3⟩
theorem Ud {base:Nat}:∀ {Ts:List TypeId} {vs:List Value} {ds:List (DataW H)} {ps:List MemPlace},DataW.TrodAll enc P w base spare held Ts vs ds ps→ds.length=Ts.length
 | [],vs,ds,ps,h=>by obtain ⟨rfl,rfl,rfl⟩:=Go.ChangeShapes.trodAll_nil h; rfl
 | T::Ts,vs,ds,ps,h=>by
  obtain ⟨v,vs',d,ds',p,q,rfl,rfl,rfl,k1,k2⟩:=Go.ChangeShapes.trodAll_cons h
  simp [Ud k2]
theorem Aji {α:Type} {l:List α} (h:l.length=1):∃ a,l=[a]:=List.length_eq_one_iff.1 h
def Ace (P:Program):List TypeId→Bool
 | []=>true
 | T::r=>P.readableRec T&&(Nat.blt T P.types.size&&Ace P r)
theorem Zz (hl:laidOutB P=true) {W W':World} (hb:Below W.heap.size W W'):∀ {Ts:List TypeId},Ace P Ts=true→∀ {vs:List Value} {ds:List (DataW H)} {ps:List MemPlace},DataW.TrodAll enc P W 0 (fun _=>true) true Ts vs ds ps→
  DataW.TrodAll enc P W' 0 (fun b=>decide (b < W.heap.size)) true Ts vs ds ps
 | [],_,vs,ds,ps,h=>by
  obtain ⟨rfl,rfl,rfl⟩:=Go.ChangeShapes.trodAll_nil h
  exact rfl
 | T::Ts,hr,vs,ds,ps,h=>by
  have hlt:=DataW.TrodAll.lt h
  obtain ⟨v,vs',d,ds',p,q,rfl,rfl,rfl,k1,k2⟩:=Go.ChangeShapes.trodAll_cons h
  simp only [Ace,Bool.and_eq_true] at hr
  exact ⟨p,q,Below.trod hl hr.1 (by simpa using hr.2.1) k1 hb (fun x hx=>hlt x (List.mem_append_left _ hx)),Zz hl hb hr.2.2 k2,rfl⟩
theorem Adh {f:FuncId} {ts:List Ty} {psh:List (Option Nat)} {den:Ij (rds ts)→Option (Ij [.rd .bool]×Pq (rds ts))} (hs:Tx P f ⟨rds ts,psh,[.rd .bool],[none]⟩ den)
  {x:Ij (rds ts)} {y:Pq (rds ts)} (hx:den x=some ((true,()),y)) {W:World} {vs us:List Value} (h1:HR W (fun _=>True) (rds ts) x us) (h2:ShR psh vs us):
  Calls P f vs.toArray W fun e W'=>e=.returned (.bool true)∧Below W.heap.size W W':=by
 refine Calls.mono (hs x _ hx W (fun _=>True) us vs h1 h2 ⟨by simp only [Rz]; exact List.nodup_nil,fun b hb=>by simp only [Rz] at hb; cases hb⟩) fun e W'=>?_
 rintro ⟨rs,us',rfl,k1,k2,⟨c1,c2,e1,e2,e3⟩,_⟩
 have e2':c1=[.bool true]:=e2
 have e3':c2=[]:=e3
 subst e2' e3'
 obtain ⟨u,us1,cs1,q1,q2,q3,q4,q5⟩:=k1
 subst q4 q5
 rw [e1] at q2
 have:u=.bool true:=by simpa using q2.symm
 subst this
 subst q1
 simp only [Rz] at k2
 exact ⟨rfl,k2.below⟩
end
end
open Go Go.RowKit Go.Proofs Go.Shelf
section
variable {P:Program} {ρ:Ren}
end
open Go Go.RowKit Go.Proofs
section
abbrev Fv (P:Program) (n:FuncId) (sd:SD):Prop:=Es P n∧Tx P n sd.sg sd.den
def tbF:List (FuncId×SD)→FuncId→Option SD
 | [],_=>none
 | p::r,f=>if f=p.1 then some p.2 else tbF r f
def Ag1 (P:Program):List (FuncId×SD)→Prop
 | []=>True
 | p::r=>Fv P p.1 p.2∧Ag1 P r
theorem Aa5 {P:Program}:∀ {l:List (FuncId×SD)},Ag1 P l→∀ f d,tbF l f=some d→Es P f∧Tx P f d.sg d.den
 | [],_,f,d,h=>by cases h
 | p::r,⟨a,b⟩,f,d,h=>by
  unfold tbF at h
  split at h
  ·rename_i e; subst e; cases h; exact a
  ·exact Aa5 b f d h
def tb (l:List (FuncId×SD)):Tb:=Tb.of (tbF l)
def tbN (l:List (FuncId×SD)):Tb:=⟨tbF l,fun _=>none,none,none,none,.all⟩
theorem Aib {P:Program} {l:List (FuncId×SD)} (h:Ag1 P l):Bd P (tbN l):=
 ⟨Aa5 h,fun _ _ q=>(by cases q),fun _ _ q=>(by cases q),fun _ _ _ q=>(by cases q),fun _ _ _ _ _ q=>(by cases q)⟩
theorem Ea {P:Program} {l:List (FuncId×SD)} (h:Ag1 P l):Bd P (tb l):=Bd.of (Aa5 h)
abbrev A6 {b:Type} (f:b) (_:Unit):b:=f
abbrev Af {a g d b:Type} (h:g→d→b) (f:a→g) (x:a×d):b:=h (f x.1) x.2
abbrev u4 {a b c e g d r:Type} (h:g→d→r) (f:a→b→c→e→g) (x:a×b×c×e×d):r:=h (f x.1 x.2.1 x.2.2.1 x.2.2.2.1) x.2.2.2.2
theorem nb:(∀ {α β:Type} (c:Bool) (x y:Option α) (f:α→Option β),(bif c then x else y).bind f=bif c then x.bind f else y.bind f)∧
  (∀ {α β:Type} (c:Prop) [Decidable c] (x y:Option α) (f:α→Option β),(if c then x else y).bind f=if c then x.bind f else y.bind f)∧
  (∀ {α β γ δ:Type} (f:α→Option γ) (g:β→Option γ) (o:α ⊕ β) (h:γ→Option δ),(Fj f g o).bind h=Fj (fun a=>(f a).bind h) (fun b=>(g b).bind h) o)∧
  (∀ {α β γ:Type} (x:Option α) (f:α→Option β) (g:β→Option γ),(x.bind f).bind g=x.bind fun y=>(f y).bind g)∧
  (∀ {α β:Type} (f:α→Option β),Option.bind none f=none)∧
  (∀ {α β:Type} (a:α) (f:α→Option β),Option.bind (some a) f=f a):=
 ⟨Adg,fun c _ x y f=>Afi c x y f,Aa3,Option.bind_assoc,fun _=>rfl,fun _ _=>rfl⟩
abbrev p0:D9:=⟨[],[],[]⟩
def Aiy:List (Nat×D9)→Nat→D9
 | [],_=>p0
 | p::r,e=>if e=p.1 then p.2 else Aiy r e
def Pb:List (Nat×D9×List (Nat×D9))→Nat→D9×(Nat→D9)
 | [],_=>(p0,fun _=>p0)
 | p::r,k=>if k=p.1 then (p.2.1,Aiy p.2.2) else Pb r k
def Xn {R:Type} (p:D9×(Nat→D9)) (e:Ex) (i:Nat) (k:Kt R) (d:(p.2 i).D):Option R:=k e ((p.2 i).st d) (p.2 i).nid
def Adi (P:Program) (R:Type) (n np:Nat) (pat:Nat→D9×(Nat→D9)) (L:Lt R pat):List Code→Prop
 | []=>True
 | c::r=>Db P R n np pat L c∧Adi P R n np pat L r
section
variable {P:Program} {R:Type} {n np:Nat}
theorem Adi.all {pat:Nat→D9×(Nat→D9)} {L:Lt R pat}:∀ {l:List Code},Adi P R n np pat L l→∀ c∈l,Db P R n np pat L c
 | [],_,c,h=>by cases h
 | d::r,⟨a,b⟩,c,h=>by
  rcases List.mem_cons.1 h with rfl | h
  ·exact a
  ·exact Adi.all b c h
theorem Ix {cfg:Cfg} {L:Lt R cfg.pat} {c:Code} (key:Nat) (ls:List Code) {E:Type} (T:{S:Type}→((cfg.pat key).1.D→Option S)→(E→Option S)→(cfg.pat key).1.D→Option S)
  (lo:Nat→(cfg.pat key).1.D→Option E) (fu:(cfg.pat key).1.D→Nat) (ou:Kt R→E→Option R) (hs:Bd P cfg.sigs) (hls':Adi P R n np cfg.pat L ls)
  (na:∀ (f:E→Option R) (NX:(cfg.pat key).1.D→Option E) d,T (fun d=>(NX d).bind f) f d=(T NX some d).bind f)
  (rd:∀ nx k d,ev P cfg L c ((cfg.pat key).1.st d) (cfg.pat key).1.nid (Aa1 np (cfg.pat key) nx k)=T (fun d=>nx d k) (ou k) d:=by intros; kernel_rfl)
  (hL:∀ d k,L key d k=(lo (fu d) d).bind (ou k):=by exact fun _ _=>rfl)
  (l0:∀ d,lo 0 d=none:=by exact fun _=>rfl) (l1:∀ m d,lo (m + 1) d=T (lo m) some d:=by exact fun _ _=>rfl)
  (hkey:Dq c=key:=by kernel_rfl) (hm:P.follows .mixedOrders=true:=by kernel_rfl) (hn:cfg.n=n:=by rfl) (hnp:cfg.np=np:=by rfl) (hls:Bx c=ls:=by kernel_rfl):Db P R n np cfg.pat L c:=by
 have lp:∀ (m:Nat) (d:(cfg.pat key).1.D) (k:Kt R),Uc np (cfg.pat key) (fun s nid k=>ev P cfg L c s nid k) m d k=(lo m d).bind (ou k):=by
  intro m
  induction m with
  | zero=>intro d k; rw [l0]; rfl
  | succ m ih=>
   intro d k
   rw [l1,← na]
   refine Eq.trans ?_ (congrArg (fun F=>T F (ou k) d) (funext fun d=>ih d k))
   exact rd _ k d
 refine Afh hkey hm hs hn hnp (fun d k r h=>⟨fu d,?_⟩) (fun c' hc'=>?_)
 ·rw [lp,← hL]; exact h
 ·rw [hls] at hc'; exact hls'.all c' hc'
theorem D5 {sigs:Tb} {f:FuncId} {fn:Func} {sd:SD} {pat:Nat→D9×(Nat→D9)} (ls:List Code) (L:Lt (Ij sd.sg.rs×Pq sd.sg.ps) pat) (hs:Bd P sigs)
  (hL:Adi P (Ij sd.sg.rs×Pq sd.sg.ps) fn.ntmps (C3 sd.sg.ps) pat L ls) (hf:P.funcs[f]? = some fn) {de:Ij sd.sg.ps→Option (Ij sd.sg.rs×Pq sd.sg.ps)} (hden:∀ x r,sd.den x=some r→de x=some r)
  (he : ∀ x, Aff P sigs pat sd.sg fn L x = de x) (hm : P.follows .mixedOrders = true := by kernel_rfl) (hname : (fn.name == "runtime.NumGoroutine") = false := by kernel_rfl) (hbody : fn.body.isNone = false := by kernel_rfl)
  (hls:Bx (Ee fn)=ls:=by kernel_rfl):Fv P f sd:=
 Afg (pat:=pat) hm hs hf hname hbody fun x r hx=>⟨L,⟨fun c hc=>hL.all c (by rw [hls] at hc; exact hc),(he x).trans (hden x r hx)⟩⟩
theorem Dc {α β:Type} {o:Option α} {g:α→β} {r:β} {d:Option β} (q:∀ y,o=some y→d=some (g y)) (h:(o.bind fun r=>some (g r))=some r):d=some r:=by
 obtain ⟨y,h1,h2⟩:=Al h
 cases h2
 exact q y h1
end
end
end Go.Proofs.Ytjokieaajjmoeaa.R
namespace Go.Proofs.Ytjokieaajjmoeaa.V
open Go Go.Proofs.Ytjokieaajjmoeaa.R
abbrev Pg:=Int×Int×Int×Aj×Unit
abbrev Wr:=Int×Aj×Unit
abbrev Dk:=List Aj×List Wr×Unit
abbrev Opn:=Bool×Int×Aj×Unit
abbrev Bi:=Aj×Aj×Unit
abbrev Ko:=List Bi×Unit
abbrev Aq:=Aj×Aj×Bool×Unit
abbrev Rt:=Int×Int×Int×Int×Unit
abbrev Sto:=Int×Int×Int×Rt×Int×Int×Ko×Unit
abbrev tI:Ty:=.int .i64
abbrev A5:Ty:=.pair .str (.pair .str .unit)
abbrev L7:Ty:=.pair (.sl A5) .unit
abbrev Ay:Ty:=.pair .str (.pair .str (.pair .bool .unit))
def wt:(t:Ty)→t.D→Nat
 | .int _,_=>0
 | .bool,_=>0
 | .str,s=>ByteArray.size s
 | .sl t,xs=>List.length xs + (List.map (wt t) xs).sum
 | .unit,_=>0
 | .pair a b,x=>wt a x.1 + wt b x.2
def Bq:(t:Ty)→t.D→Bool
 | .int _,_=>true
 | .bool,_=>true
 | .str,s=>decide (ByteArray.size s < 1152921504606846976)
 | .sl t,xs=>decide (List.length xs < 1152921504606846976)&&List.all xs (Bq t)
 | .unit,_=>true
 | .pair a b,x=>Bq a x.1&&Bq b x.2
def Ek:(t:Ty)→t.D→Bool
 | .int _,_=>true
 | .bool,_=>true
 | .str,_=>true
 | .sl t,xs=>decide (List.length xs≤1048576)&&List.all xs (Ek t)
 | .unit,_=>true
 | .pair a b,x=>Ek a x.1&&Ek b x.2
def Px {α:Type} (f:α→α→Bool):List α→List α→Bool
 | [],[]=>true
 | a::r,b::q=>f a b&&Px f r q
 | _,_=>false
def eqI (a b:Int):Bool:=decide (a=b)
def eqO (a b:Bool):Bool:=a==b
def Yz (a b:Aj):Bool:=ByteArray.toList a==ByteArray.toList b
def Lo:(t:Ty)→t.D→t.D→Bool
 | .int _,a,b=>eqI a b
 | .bool,a,b=>eqO a b
 | .str,a,b=>Yz a b
 | .sl t,xs,ys=>Px (Lo t) xs ys
 | .unit,_,_=>true
 | .pair a b,x,y=>Lo a x.1 y.1&&Lo b x.2 y.2
def szM (t:Ty) (x:t.D) (left:Int):Option Int:=
 if (Bq t x&&decide (0≤left)&&decide (left≤1048576))=true then some (if left - (wt t x:Int) < 0 then -1 else left - (wt t x:Int)) else none
def toM (t:Ty) (x:t.D):Option t.D:=if Ek t x=true then some x else none
def eqM (t:Ty) (x y:t.D):Option Bool:=if (Bq t x&&Bq t y)=true then some (Lo t x y) else none
def N1:Nat→Int→Aj→Aj
 | 0,_,out=>out
 | m + 1,k,out=>if k > 0 then N1 m (k / 10) (strOfNums [48 + k % 10]++out) else out
def Gc (k:Int):Aj:=if k≤0 then ⟨#[109,48]⟩ else ⟨#[109]⟩++N1 20 k ⟨#[]⟩
def mkE:(t:Ty)→Int→t.D×Int
 | .int _,k=>(k,k + 1)
 | .bool,k=>(decide (k % 3=0),k + 1)
 | .str,k=>(Gc k,k + 1)
 | .sl _,k=>([],k)
 | .unit,k=>((),k)
 | .pair a b,k=>(((mkE a k).1,(mkE b (mkE a k).2).1),(mkE b (mkE a k).2).2)
def gL {α:Type} (e:Int→α) (c:Nat):Nat→Int→List α
 | 0,_=>[]
 | n + 1,k=>e k::gL e c n (k + c)
def Td:Ty→Nat
 | .unit=>0
 | .pair a b=>Td a + Td b
 | .sl _=>0
 | _=>1
def w5 (t:Ty) (n:Nat) (k:Int):List t.D:=gL (fun k=>(mkE t k).1) (Td t) n k
def Py (t:Ty) (xs:List t.D) (k:Int):Option (Int×List t.D):=
 if (decide (1≤k)&&decide (k≤1125899906842624)&&decide (xs.length≤1125899906842624))=true then some (k + xs.length * Td t,w5 t xs.length k) else none
def Xo (t:Ty) (xs:List t.D) (k:Int):Option Int:=
 if (decide (1≤k)&&decide (k≤1125899906842624)&&decide (xs.length≤1125899906842624))=true then some (if Lo (.sl t) xs (w5 t xs.length k)=true then k + xs.length * Td t else -1) else none
def Em {α:Type} (mk:Nat→Int→List α) (c:Nat):List (List α)→Int→List (List α)
 | [],_=>[]
 | x::r,k=>mk x.length k::Em mk c r (k + x.length * c)
def Xp (t:Ty) (xs:List (List t.D)) (k:Int):List (List t.D):=Em (w5 t) (Td t) xs k
def D6 {α:Type}:List (List α)→Nat
 | []=>0
 | x::r=>x.length + D6 r
def Qk (t:Ty) (xs:List (List t.D)) (k:Int):Option (Int×List (List t.D)):=
 if (decide (1≤k)&&decide (k≤562949953421312)&&decide (xs.length≤1099511627776)&&decide (D6 xs * Td t≤1099511627776))=true then some (k + D6 xs * Td t,Xp t xs k) else none
def eqR (t:Ty) (x y:List t.D):Bool:=Lo (.sl t) x y
def Ql (t:Ty) (xs:List (List t.D)) (k:Int):Option Int:=
 if (decide (1≤k)&&decide (k≤562949953421312)&&decide (xs.length≤1099511627776)&&decide (D6 xs * Td t≤1099511627776))=true then some (if Px (eqR t) xs (Xp t xs k)=true then k + D6 xs * Td t else -1) else none
def Z0 (v lo hi:Int):Bool:=decide (lo≤v)&&decide (v≤hi)
def Hu (k:Aj):Bool:=Z0 (k.size:Int) 1 20
def bl (a b:Aj):Bool:=Op.bytesLess (ByteArray.toList a) (ByteArray.toList b)
def z0:Aj:=⟨#[]⟩
abbrev zP:Bi:=(⟨#[]⟩,⟨#[]⟩,())
def G8 (xs:List Bi) (i:Nat):Bool:=Hu (xs.getD i zP).1&&(decide ((xs.getD i zP).2.1.size≤100)&&(i==0 || bl (xs.getD (i - 1) zP).1 (xs.getD i zP).1))
def Cf (s:Ko):Bool:=decide (s.1.length≤100)&&(List.range' 0 s.1.length).all (G8 s.1)
def N2 (c:Aq):Bool:=Hu c.1&&(decide (c.2.1.size≤100)&&!(c.2.2.1&&!(c.2.1.toList==[])))
abbrev zC:Aq:=(⟨#[]⟩,⟨#[]⟩,false,())
def Iy (b:List Aq):Bool:=Z0 (b.length:Int) 1 20&&(List.range' 0 b.length).all fun i=>N2 (b.getD i zC)
def Afo {α E:Type} (p:α→Bool) (out:α→E) (ok:E):List α→E
 | []=>ok
 | x::r=>bif p x then out x else Afo p out ok r
def zW:Wr:=(0,⟨#[]⟩,())
def Aiz (n:Nat) (w:Wr):Bool:=decide (0≤w.1)&&(decide (w.1 < (n:Int))&&decide (w.2.1.size=64))
def Xq {α σ:Type} (step:Nat→α→σ→σ):Nat→List α→σ→σ
 | _,[],s=>s
 | i,x::r,s=>Xq step (i + 1) r (step i x s)
def w6 (sec:List Aj) (ws:List Wr):List Aj:=Xq (fun _ w s=>s.set w.1.toNat w.2.1) 0 ws sec
def Ahn (d:Dk):Dk:=(w6 d.1 d.2.1,[],())
def Ajk (d:Dk) (a:Int):Aj:=Afo (fun w=>w.1==a) (fun w=>w.2.1) (d.1.getD a.toNat z0) d.2.1.reverse
def Ai0 (v:Int):Nat→List Int
 | 0=>[]
 | n + 1=>Ai0 (v / 256) n++[v % 256]
def beS (v:Int) (n:Nat):Aj:=strOfNums (Ai0 v n)
def Afp (h b:Int):Int:=IntKind.wrap IntKind.u64 (IntKind.wrap IntKind.u64 (nI (BitVec.toNat (BitVec.ofInt 64 h ^^^ BitVec.ofInt 64 (IntKind.wrap IntKind.u64 b)))) * 1099511628211)
def iter {σ:Type} (f:Nat→σ→σ):Nat→Nat→σ→σ
 | 0,_,s=>s
 | k + 1,i,s=>iter f k (i + 1) (f i s)
def Aic (s:Aj) (k i:Nat) (h:Int):Int:=iter (fun i h=>Afp h (Nk s i)) k i h
def Ajl (s:Aj) (w:Int):Aj:=bif Z0 w 1 8 then beS (Aic s s.size 0 14695981039346656037) w.toNat else ⟨#[]⟩
def Aid (p:Pg) (w:Int):Bool:=Z0 w 1 8&&(Z0 p.1 1 4&&(Z0 p.2.1 1 60000&&(Z0 p.2.2.1 1 1000000000&&(decide ((p.2.2.2.1.size:Int)≤56 - w)&&(p.1 != 3 || (p.2.2.2.1.toList==[]))))))
def Aho (p:Pg) (w:Int):Aj:=beS p.1 1++beS p.2.1 2++beS p.2.2.1 4++beS p.2.2.2.1.size 1++p.2.2.2.1++strOfNums (List.replicate (56 - w - p.2.2.2.1.size).toNat 0)
def Ue (p:Pg) (w:Int):Aj:=bif Aid p w then Ajl (Aho p w) w++Aho p w else ⟨#[]⟩
def Adj (c:Aq):List Int:=bif c.2.2.1 then [1,nI c.1.size]++Au c.1 else [0,nI c.1.size]++Au c.1++[nI c.2.1.size]++Au c.2.1
def Te (b:List Aq):List Int:=(b.map Adj).flatten
def R0 (b:List Aq):Aj:=bif Iy b then strOfNums (Te b) else ⟨#[]⟩
def Kq (s:Aj):Aj×Aj×Bool:=if (s.size:Int) < 1∨(s.size:Int) < 1 + Nk s 0 then (⟨#[]⟩,s,false) else (Ge s 1 (1 + Nk s 0),Ge s (1 + Nk s 0) (nI s.size),true)
def Ai2 (strict:Bool) (s:Aj):Option (Aq×Aj):=
 bif strict&&decide (Nk s 0 > 1) then none
 else bif !(Kq (Ge s 1 (nI s.size))).2.2 then none
 else bif Nk s 0==1 then some (((Kq (Ge s 1 (nI s.size))).1,⟨#[]⟩,true,()),(Kq (Ge s 1 (nI s.size))).2.1)
 else bif !(Kq (Kq (Ge s 1 (nI s.size))).2.1).2.2 then none
 else some (((Kq (Ge s 1 (nI s.size))).1,(Kq (Kq (Ge s 1 (nI s.size))).2.1).1,false,()),(Kq (Kq (Ge s 1 (nI s.size))).2.1).2.1)
def Afq (strict:Bool):Nat→List Aq→Aj→Option (List Aq×Aj)
 | 0,r,s=>some (r,s)
 | f + 1,r,s=>bif decide (s.size > 0)&&decide (r.length≤20) then (match Ai2 strict s with | none=>none | some (c,t)=>Afq strict f (r++[c]) t) else some (r,s)
def Ace (s:Aj):List Aq×Bool:=match Afq true 22 [] s with
 | none=>([],false)
 | some (b,t)=>bif decide (t.size > 0) || !Iy b then ([],false) else (b,true)
def O5 (n:Nat):Nat→Aj→List Aj
 | 0,s=>[s]
 | f + 1,s=>if s.size > n then Ge s 0 n::O5 n f (Ge s n (nI s.size)) else [s]
def l3 (s:Aj) (w:Int):List Aj:=O5 (56 - w).toNat s.size s
def N3 (n:Nat) (w:Int):Int:=bif Z0 w 1 8 then (if ((n:Int) + (56 - w) - 1) / (56 - w) > 1 then ((n:Int) + (56 - w) - 1) / (56 - w) else 1) else 0
def Acf (life w:Int):Int→List Aj→List Aj
 | _,[]=>[]
 | k,[p]=>[Ue (2,life,k,p,()) w]
 | k,p::q::r=>Ue (1,life,k,p,()) w::Acf life w (k + 1) (q::r)
def Aie (e:Aj) (life first w:Int):List Aj:=bif Z0 w 1 8&&(Z0 life 1 60000&&(decide (1≤first)&&decide (first≤1000000000 - N3 e.size w + 1))) then Acf life w first (l3 e w) else []
def opS (d:Dk) (o:Opn):Dk:=bif o.1 then Ahn d else bif Aiz d.1.length (o.2.1,o.2.2.1,())&&decide (d.2.1.length < 300) then (d.1,d.2.1++[(o.2.1,o.2.2.1,())],()) else d
def Y0 (p:Bi):Aq:=(p.1,p.2.1,false,())
def Dw (i:Nat) (p:Bi) (r:List (List Aq)×Bool×List Aq):List (List Aq)×Bool×List Aq:=bif i % 20==0 then (C8 r.2.1 r.1 r.2.2,true,[Y0 p]) else (r.1,r.2.1,r.2.2++[Y0 p])
def Xr (i:Nat) (l:List Bi) (r:List (List Aq)×Bool×List Aq):List (List Aq)×Bool×List Aq:=Xq Dw i l r
def Hv (s:Ko):List (List Aq):=bif Cf s then (let r:=Xr 0 s.1 ([],false,[]); C8 r.2.1 r.1 r.2.2) else []
section
theorem D2 {n:Int} (h0:-9223372036854775808≤n) (h1:n < 9223372036854775808):IntKind.i64.wrap n=n:=by
 have e:IntKind.i64.wrap n=if n % 18446744073709551616≥9223372036854775808 then n % 18446744073709551616 - 18446744073709551616 else n % 18446744073709551616:=by
  simp [IntKind.wrap,IntKind.bits,IntKind.signed]
 rw [e]
 split<;>omega
theorem Gu {α:Type} (xs:List α) (i:Nat) (z:α) (h:i < xs.length):xs.drop i=xs.getD i z::xs.drop (i + 1):=by
 rw [List.drop_eq_getElem_cons h]
 simp [List.getD,List.getElem?_eq_getElem h]
theorem Iz {α:Type} {xs:List α} {i:Nat} (z:α) (h:i < xs.length):xs.getD i z∈xs:=by
 simp [List.getD,List.getElem?_eq_getElem h]
theorem V1 {i n:Nat} (h:i < n):decide ((i:Int) < nI n)=true:=by simp [nI]; omega
theorem R1 {n:Nat}:decide ((n:Int) < nI n)=false:=by simp [nI]
theorem K6 {i:Nat}:decide ((0:Int)≤(i:Int))=true:=by simp
theorem Ag2 {i n:Nat} (h:i < n):decide (i < n)=true:=by simp [h]
theorem wI {i:Nat} (h:i < 4611686018427387904):IntKind.i64.wrap ((i:Int) + 1)=((i + 1:Nat):Int):=by rw [D2 (by omega) (by omega)]; rfl
theorem Acg {α E:Type} {xs:List α} (z:α) (w:α→Nat) {g:Nat→Int→Int→Option E} {ok:Int→E} {bad:E}
  (hs:∀ m (i:Nat) l,i < xs.length→0≤l→l≤1048576→g (m + 1) l i=bif decide (l - (w (xs.getD i z):Int) < 0) then some bad else g m (l - w (xs.getD i z)) ((i + 1:Nat):Int))
  (he:∀ m l,g (m + 1) l (xs.length:Int)=some (ok l)):
  ∀ (m i:Nat) (l:Int),i≤xs.length→xs.length - i < m→0≤l→l≤1048576→g m l i=some (if l - (((xs.drop i).map w).sum:Int) < 0 then bad else ok (l - ((xs.drop i).map w).sum))
 | 0,i,l,hi,hm,_,_=>by omega
 | m + 1,i,l,hi,hm,h0,h1=>by
  by_cases h:i < xs.length
  ·rw [hs m i l h h0 h1,Gu xs i z h,List.map_cons,List.sum_cons,Int.natCast_add (w (xs.getD i z))]
   by_cases q:l - (w (xs.getD i z):Int) < 0
   ·have q2:l - ((w (xs.getD i z):Int) + (((xs.drop (i + 1)).map w).sum:Int)) < 0:=by omega
    rw [C2 q,cond_true,if_pos q2]
   ·rw [Na q,cond_false,Acg z w hs he m (i + 1) _ (by omega) (by omega) (by omega) (by omega)]
    simp only [Int.sub_sub]
  ·have:i=xs.length:=by omega
   subst this
   rw [he]
   simp only [List.drop_length,List.map_nil,List.sum_nil]
   have:¬ (l - ((0:Nat):Int) < 0):=by simp; omega
   rw [if_neg this]
   simp
theorem Ach {α E:Type} {xs:List α} (z:α) {g:Nat→Int→List α→Option E} {ok:List α→E}
  (hs:∀ m (i:Nat) (r:List α),i < xs.length→r.length=xs.length→g (m + 1) i r=g m ((i + 1:Nat):Int) (r.set i (xs.getD i z)))
  (he:∀ m r,g (m + 1) (xs.length:Int) r=some (ok r)):
  ∀ (m i:Nat) (r:List α),i≤xs.length→xs.length - i < m→r.length=xs.length→g m i r=some (ok (r.take i++xs.drop i))
 | 0,i,l,hi,hm,_=>by omega
 | m + 1,i,r,hi,hm,hr=>by
  by_cases h:i < xs.length
  ·rw [hs m i r h hr,Ach z hs he m (i + 1) _ (by omega) (by omega) (by simp [hr]),Gu xs i z h]
   have:(r.set i (xs.getD i z)).take (i + 1)=r.take i++[xs.getD i z]:=by
    rw [List.take_add_one,List.take_set_of_le (Nat.le_refl i),List.getElem?_set_self (by omega)]
    rfl
   rw [this,List.append_assoc]
   rfl
  ·have:i=xs.length:=by omega
   subst this
   rw [he,List.drop_length,List.append_nil,← hr,List.take_length]
theorem V2 {α:Type} {f:α→α→Bool}:∀ {xs ys:List α},xs.length≠ys.length→Px f xs ys=false
 | [],[],h=>absurd rfl h
 | [],_::_,_=>rfl
 | _::_,[],_=>rfl
 | x::xs,y::ys,h=>by
  simp only [Px]
  rw [V2 (by simpa using h),Bool.and_false]
theorem V3 {α E:Type} {xs ys:List α} (z:α) (f:α→α→Bool) {g:Nat→Int→Option E} {ok bad:E} (hl:ys.length=xs.length)
  (hs:∀ m (i:Nat),i < xs.length→g (m + 1) i=bif f (xs.getD i z) (ys.getD i z) then g m ((i + 1:Nat):Int) else some bad)
  (he:∀ m,g (m + 1) (xs.length:Int)=some ok):
  ∀ (m i:Nat),i≤xs.length→xs.length - i < m→g m i=some (bif Px f (xs.drop i) (ys.drop i) then ok else bad)
 | 0,i,hi,hm=>by omega
 | m + 1,i,hi,hm=>by
  by_cases h:i < xs.length
  ·rw [hs m i h,Gu xs i z h,Gu ys i z (by omega)]
   simp only [Px]
   cases f (xs.getD i z) (ys.getD i z) with
   | false=>rfl
   | true=>
    rw [cond_true,V3 z f hl hs he m (i + 1) (by omega) (by omega),Bool.true_and]
  ·have:i=xs.length:=by omega
   subst this
   have hy:ys.drop xs.length=[]:=List.drop_eq_nil_of_le (by omega)
   rw [he,List.drop_length,hy]
   rfl
theorem Xs {E:Type} {n:Nat} {g:Nat→Int→Option E} {ok bad:E} (p:Nat→Bool)
  (hs:∀ m (i:Nat),i < n→g (m + 1) i=bif p i then g m ((i + 1:Nat):Int) else some bad)
  (he:∀ m,g (m + 1) (n:Int)=some ok):
  ∀ (m i:Nat),i≤n→n - i < m→g m i=some (bif (List.range' i (n - i)).all p then ok else bad)
 | 0,i,hi,hm=>by omega
 | m + 1,i,hi,hm=>by
  by_cases h:i < n
  ·have e:n - i=(n - (i + 1)) + 1:=by omega
   rw [hs m i h,e,List.range'_succ,List.all_cons]
   cases p i with
   | false=>rfl
   | true=>
    rw [cond_true,Xs p hs he m (i + 1) (by omega) (by omega),Bool.true_and]
  ·have:i=n:=by omega
   subst this
   rw [he,Nat.sub_self]
   rfl
theorem Ag3 {a b c:Bool} (h:(a&&b&&c)=true):a=true∧b=true∧c=true:=by
 cases a<;>cases b<;>cases c<;>first | exact ⟨rfl,rfl,rfl⟩ | cases h
theorem I0 {a b:Bool} (h:(a&&b)=true):a=true∧b=true:=by
 cases a<;>cases b<;>first | exact ⟨rfl,rfl⟩ | cases h
theorem I1 {t:Ty} {xs:List t.D} (h:Bq (.sl t) xs=true):List.length xs < 1152921504606846976∧∀ x∈xs,Bq t x=true:=by
 obtain ⟨h1,h2⟩:=I0 h
 exact ⟨Gb h1,List.all_eq_true.1 h2⟩
theorem Adk {t:Ty} {xs:List t.D} (h:Ek (.sl t) xs=true):List.length xs≤1048576∧∀ x∈xs,Ek t x=true:=by
 obtain ⟨h1,h2⟩:=I0 h
 exact ⟨Gb h1,List.all_eq_true.1 h2⟩
theorem B6 {a b:Ty} {x:a.D×b.D} (h:Bq (.pair a b) x=true):Bq a x.1=true∧Bq b x.2=true:=I0 h
theorem w7 {a b:Ty} {x:a.D×b.D} (h:Ek (.pair a b) x=true):Ek a x.1=true∧Ek b x.2=true:=I0 h
theorem Z1 {x:Aj} (h:Bq .str x=true):ByteArray.size x < 1152921504606846976:=Gb h
theorem Xt {t:Ty} {x:t.D} {l r:Int} (h:szM t x l=some r):Bq t x=true∧0≤l∧l≤1048576∧(if l - (wt t x:Int) < 0 then -1 else l - (wt t x:Int))=r:=by
 unfold szM at h
 split at h
 ·rename_i hc
  obtain ⟨h1,h2,h3⟩:=Ag3 hc
  exact ⟨h1,Gb h2,Gb h3,Option.some.inj h⟩
 ·cases h
theorem Aa6 {t:Ty} {x:t.D} {l:Int} (h1:Bq t x=true) (h2:0≤l) (h3:l≤1048576):szM t x l=some (if l - (wt t x:Int) < 0 then -1 else l - (wt t x:Int)):=by
 unfold szM
 rw [if_pos (by rw [h1,C2 h2,C2 h3]; rfl)]
theorem Xu {t:Ty} {x r:t.D} (h:toM t x=some r):Ek t x=true∧x=r:=by
 unfold toM at h
 split at h
 ·exact ⟨by assumption,Option.some.inj h⟩
 ·cases h
theorem Afr {t:Ty} {x:t.D} (h:Ek t x=true):toM t x=some x:=if_pos h
theorem K7 {t:Ty} {x y:t.D} {r:Bool} (h:eqM t x y=some r):Bq t x=true∧Bq t y=true∧Lo t x y=r:=by
 unfold eqM at h
 split at h
 ·rename_i hc
  obtain ⟨h1,h2⟩:=I0 hc
  exact ⟨h1,h2,Option.some.inj h⟩
 ·cases h
theorem Xv {t:Ty} {x y:t.D} (h1:Bq t x=true) (h2:Bq t y=true):eqM t x y=some (Lo t x y):=by
 unfold eqM
 rw [if_pos (by rw [h1,h2]; rfl)]
theorem Et {α:Type} {r:List α} {i:Nat} {x z:α} (h:i < r.length):(r.set i x).getD i z=x:=by
 simp [List.getD,h]
theorem Ahp {k:Int} (h:0≤k):(Int.tmod k 3==0)=decide (k % 3=0):=by
 rw [Int.tmod_eq_emod_of_nonneg h]
 rfl
theorem Tf {α E:Type} (e:Int→α) (c:Nat) {n:Nat} {K:Int} {g:Nat→Int→Int→List α→Option E} {ok:Int→List α→E}
  (hs:∀ m (i:Nat) (k:Int) (r:List α),i < n→r.length=n→1≤k→k + (n - i:Nat) * c≤K→g (m + 1) k i r=g m (k + c) ((i + 1:Nat):Int) (r.set i (e k)))
  (he:∀ m k r,r.length=n→g (m + 1) k (n:Int) r=some (ok k r)):
  ∀ (m i:Nat) (k:Int) (r:List α),i≤n→n - i < m→r.length=n→1≤k→k + (n - i:Nat) * c≤K→g m k i r=some (ok (k + (n - i:Nat) * c) (r.take i++gL e c (n - i) k))
 | 0,i,k,r,hi,hm,_,_,_=>by omega
 | m + 1,i,k,r,hi,hm,hr,h1,hK=>by
  by_cases h:i < n
  ·have q:n - i=(n - (i + 1)) + 1:=by omega
   have hK2:k + (c:Int) + (n - (i + 1):Nat) * c=k + (n - i:Nat) * c:=by
    rw [q,Int.natCast_add,Int.add_mul]
    simp only [Int.natCast_one,Int.one_mul]
    omega
   rw [hs m i k r h hr h1 hK,Tf e c hs he m (i + 1) _ _ (by omega) (by omega) (by simp [hr]) (by omega) (by rw [hK2]; exact hK),hK2]
   have h2:(r.set i (e k)).take (i + 1)=r.take i++[e k]:=by
    rw [List.take_add_one,List.take_set_of_le (Nat.le_refl i),List.getElem?_set_self (by omega)]
    rfl
   rw [h2,List.append_assoc]
   have h3:gL e c (n - i) k=e k::gL e c (n - (i + 1)) (k + c):=by rw [q]; rfl
   rw [h3]
   rfl
  ·have:i=n:=by omega
   subst this
   rw [he _ _ _ hr,Nat.sub_self]
   simp [gL,← hr]
theorem Z2 {α E:Type} {xs:List α} (z:α) (f:α→α→Bool) (e:Int→α) (c:Nat) {K:Int} {g:Nat→Int→Int→Option E} {ok:Int→E} {bad:E}
  (hs:∀ m (i:Nat) (k:Int),i < xs.length→1≤k→k + (xs.length - i:Nat) * c≤K→g (m + 1) k i=bif f (xs.getD i z) (e k) then g m (k + c) ((i + 1:Nat):Int) else some bad)
  (he:∀ m k,g (m + 1) k (xs.length:Int)=some (ok k)):
  ∀ (m i:Nat) (k:Int),i≤xs.length→xs.length - i < m→1≤k→k + (xs.length - i:Nat) * c≤K→g m k i=some (bif Px f (xs.drop i) (gL e c (xs.length - i) k) then ok (k + (xs.length - i:Nat) * c) else bad)
 | 0,i,k,hi,hm,_,_=>by omega
 | m + 1,i,k,hi,hm,h1,hK=>by
  by_cases h:i < xs.length
  ·have q:xs.length - i=(xs.length - (i + 1)) + 1:=by omega
   have hK2:k + (c:Int) + (xs.length - (i + 1):Nat) * c=k + (xs.length - i:Nat) * c:=by
    rw [q,Int.natCast_add,Int.add_mul]
    simp only [Int.natCast_one,Int.one_mul]
    omega
   have h3:gL e c (xs.length - i) k=e k::gL e c (xs.length - (i + 1)) (k + c):=by rw [q]; rfl
   rw [hs m i k h h1 hK,Gu xs i z h,h3]
   simp only [Px]
   cases f (xs.getD i z) (e k) with
   | false=>rfl
   | true=>rw [cond_true,Z2 z f e c hs he m (i + 1) _ (by omega) (by omega) (by omega) (by rw [hK2]; exact hK),hK2,Bool.true_and]
  ·have:i=xs.length:=by omega
   subst this
   rw [he,Nat.sub_self,List.drop_length]
   simp [gL,Px]
theorem Aa7 {α:Type} (e:Int→α) (c:Nat):∀ n k,(gL e c n k).length=n
 | 0,_=>rfl
 | n + 1,k=>by simp [gL,Aa7 e c n]
theorem Xw {t:Ty} {xs:List t.D} {k:Int} {r:Int×List t.D} (h:Py t xs k=some r):1≤k∧k≤1125899906842624∧List.length xs≤1125899906842624∧(k + List.length xs * Td t,w5 t (List.length xs) k)=r:=by
 unfold Py at h
 split at h
 ·rename_i hc
  obtain ⟨h1,h2,h3⟩:=Ag3 hc
  exact ⟨Gb h1,Gb h2,Gb h3,Option.some.inj h⟩
 ·cases h
theorem w8 {t:Ty} {xs:List t.D} {k:Int} (h1:1≤k) (h2:k≤1125899906842624) (h3:List.length xs≤1125899906842624):Py t xs k=some (k + List.length xs * Td t,w5 t (List.length xs) k):=by
 unfold Py
 rw [if_pos (by rw [C2 h1,C2 h2,C2 h3]; rfl)]
theorem Aa8 {t:Ty} {xs:List t.D} {k:Int} {r:Int} (h:Xo t xs k=some r):1≤k∧k≤1125899906842624∧List.length xs≤1125899906842624∧(if Lo (.sl t) xs (w5 t (List.length xs) k)=true then k + List.length xs * Td t else -1)=r:=by
 unfold Xo at h
 split at h
 ·rename_i hc
  obtain ⟨h1,h2,h3⟩:=Ag3 hc
  exact ⟨Gb h1,Gb h2,Gb h3,Option.some.inj h⟩
 ·cases h
theorem w9 {t:Ty} {xs:List t.D} {k:Int} (h1:1≤k) (h2:k≤1125899906842624) (h3:List.length xs≤1125899906842624):Xo t xs k=some (if Lo (.sl t) xs (w5 t (List.length xs) k)=true then k + List.length xs * Td t else -1):=by
 unfold Xo
 rw [if_pos (by rw [C2 h1,C2 h2,C2 h3]; rfl)]
theorem Aci (n c:Nat):decide (nI n > (c:Int))=!decide (n≤c):=by
 by_cases q:n≤c
 ·have:¬ (nI n > (c:Int)):=by simp [nI]; omega
  rw [C2 q,Na this]; rfl
 ·have:nI n > (c:Int):=by simp [nI]; omega
  rw [Na q,C2 this]; rfl
theorem gt0 (i:Nat):decide ((i:Int) > 0)=!(i==0):=by
 cases i with
 | zero=>rfl
 | succ j=>
  have:((j + 1:Nat):Int) > 0:=by omega
  rw [C2 this]; rfl
theorem wP (j:Nat) (h:j < 4611686018427387904):IntKind.i64.wrap (((j + 1:Nat):Int) - 1)=(j:Int):=by rw [D2 (by omega) (by omega)]; omega
theorem V4:∀ {t:Ty} {x:t.D},Ry t x→Bq t x=true
 | .int _,_,_=>rfl
 | .bool,_,_=>rfl
 | .str,s,h=>by
  have h:ByteArray.size s≤reachBytes:=h
  have:reachBytes < 1152921504606846976:=by decide
  exact C2 (by omega)
 | .sl t,xs,h=>by
  obtain ⟨h1,h2⟩:=h
  have:reachBytes < 1152921504606846976:=by decide
  show (decide (List.length xs < 1152921504606846976)&&List.all xs (Bq t))=true
  rw [C2 (by omega),Bool.true_and]
  refine List.all_eq_true.2 fun x hx=>?_
  obtain ⟨i,hi,rfl⟩:=List.mem_iff_getElem.1 hx
  exact V4 (h2 i _ (List.getElem?_eq_getElem hi))
 | .unit,_,_=>rfl
 | .pair a b,x,h=>by
  show (Bq a x.1&&Bq b x.2)=true
  rw [V4 h.1,V4 h.2]
  rfl
theorem Acj {α:Type} (f:α→Nat):∀ {xs:List α} {x:α},x∈xs→f x≤(xs.map f).sum
 | [],_,h=>by cases h
 | y::r,x,h=>by
  rw [List.map_cons,List.sum_cons]
  rcases List.mem_cons.1 h with rfl | h
  ·omega
  ·have:=Acj f h
   omega
theorem R2:∀ {t:Ty} {x:t.D},wt t x≤1048576→Ek t x=true
 | .int _,_,_=>rfl
 | .bool,_,_=>rfl
 | .str,_,_=>rfl
 | .sl t,xs,h=>by
  have h:List.length xs + (List.map (wt t) xs).sum≤1048576:=h
  show (decide (List.length xs≤1048576)&&List.all xs (Ek t))=true
  rw [C2 (by omega),Bool.true_and]
  refine List.all_eq_true.2 fun x hx=>R2 ?_
  have:=Acj (wt t) hx
  omega
 | .unit,_,_=>rfl
 | .pair a b,x,h=>by
  have h:wt a x.1 + wt b x.2≤1048576:=h
  show (Ek a x.1&&Ek b x.2)=true
  rw [R2 (by omega),R2 (by omega)]
  rfl
theorem Xx {α:Type} {f:α→α→Bool} (h:∀ x,f x x=true):∀ xs,Px f xs xs=true
 | []=>rfl
 | x::r=>by simp only [Px,h,Xx h r,Bool.and_self]
theorem Afs (x:Int):eqI x x=true:=C2 rfl
theorem Aft (x:Bool):eqO x x=true:=by cases x<;>rfl
theorem Afu (x:Aj):Yz x x=true:=by unfold Yz; simp
theorem K8:∀ (t:Ty) (x:t.D),Lo t x x=true
 | .int _,x=>Afs x
 | .bool,x=>Aft x
 | .str,x=>Afu x
 | .sl t,xs=>Xx (K8 t) xs
 | .unit,_=>rfl
 | .pair a b,x=>by
  show (Lo a x.1 x.1&&Lo b x.2 x.2)=true
  rw [K8,K8]
  rfl
theorem x1 {t:Ty} {x:t.D} (h:Bq t x=true):eqM t x x=some true:=(Xv h h).trans (congrArg some (K8 t x))
theorem Afv {t:Ty} {x:t.D} {l0:Int} (h:Bq t x=true) (h0:0≤l0) (h1:l0≤1048576) {m:Option Int} (hm:m=szM t x l0):
  m=some (-1)∨∃ l:Int,m=some l∧0≤l∧l≤1048576∧Ek t x=true∧decide (l < 0)=false:=by
 subst hm
 rw [Aa6 h h0 h1]
 by_cases q:l0 - (wt t x:Int) < 0
 ·rw [if_pos q]; exact .inl rfl
 ·rw [if_neg q]
  exact .inr ⟨_,rfl,by omega,by omega,R2 (by omega),Na q⟩
theorem Ai3:decide ((-1:Int) < 0)=true:=rfl
theorem Tg {α σ:Type} (Inv:σ→Prop) (step:Nat→α→σ→σ):∀ (l:List α) (i:Nat) (s:σ),(∀ i s x,x∈l→Inv s→Inv (step i x s))→Inv s→Inv (Xq step i l s)
 | [],_,_,_,h=>h
 | x::r,i,s,hs,h=>Tg Inv step r (i + 1) _ (fun i s y hy=>hs i s y (List.mem_cons_of_mem _ hy)) (hs i s x (by simp) h)
theorem Adl {n:Nat} {p:Nat→Bool} (h:(List.range' 0 n).all p=true) (i:Nat) (hi:i < n):p i=true:=List.all_eq_true.1 h i (by simp [List.mem_range']; omega)
theorem Aa9 {s:Aj} {a b:Int} (h0:0≤a) (h1:a≤b) (h2:b≤(s.size:Int)):(Ge s a b).size=(b - a).toNat:=by
 unfold Ge
 rw [ByteArray.size_extract]
 omega
structure Kr (d:Dk):Prop where
 n8:8≤d.1.length
 n200:d.1.length≤200
 p300:d.2.1.length≤300
 sec:∀ i,i < d.1.length→(d.1.getD i z0).size=64
 pen:∀ i,i < d.2.1.length→0≤(d.2.1.getD i zW).1∧(d.2.1.getD i zW).1 < (d.1.length:Int)∧(d.2.1.getD i zW).2.1.size=64
theorem Afw {α:Type} {xs:List α} {x:α} (z:α) (h:x∈xs):∃ i,i < xs.length∧xs.getD i z=x:=by
 obtain ⟨i,hi,rfl⟩:=List.mem_iff_getElem.1 h
 exact ⟨i,hi,by simp [List.getD,List.getElem?_eq_getElem hi]⟩
theorem getD_set_ne {α:Type} {r:List α} {i j:Nat} {x z:α} (h:i≠j):(r.set i x).getD j z=r.getD j z:=by
 simp [List.getD,List.getElem?_set_ne h]
theorem l4 (sec:List Aj) (ws:List Wr):(w6 sec ws).length=sec.length:=
 Tg (fun s=>s.length=sec.length) _ ws 0 sec (fun i s w _ h=>by rw [List.length_set]; exact h) rfl
def x3 (n:Nat) (s:List Aj):Prop:=s.length=n∧∀ i,i < n→(s.getD i z0).size=64
theorem x3.set {n:Nat} {s:List Aj} (h:x3 n s) {j:Nat} {x:Aj} (hx:x.size=64):x3 n (s.set j x):=by
 refine ⟨by rw [List.length_set]; exact h.1,fun i hi=>?_⟩
 by_cases q:j=i
 ·subst q
  rw [Et (by rw [h.1]; exact hi)]
  exact hx
 ·rw [getD_set_ne q]
  exact h.2 i hi
def Ml:(t:Ty)→t.D→Bool
 | .int _,_=>true
 | .bool,_=>true
 | .str,s=>decide (ByteArray.size s≤1073741824)
 | .sl t,xs=>decide (List.length xs≤1073741824)&&List.all xs (Ml t)
 | .unit,_=>true
 | .pair a b,x=>Ml a x.1&&Ml b x.2
theorem O6:∀ {t:Ty} {x:t.D},Ml t x=true→Bq t x=true
 | .int _,_,_=>rfl
 | .bool,_,_=>rfl
 | .str,s,h=>C2 (by have:=Gb (show decide (ByteArray.size s≤1073741824)=true from h); show ByteArray.size s < _; omega)
 | .sl t,xs,h=>by
  have h:(decide (List.length xs≤1073741824)&&List.all xs (Ml t))=true:=h
  obtain ⟨h1,h2⟩:=I0 h
  show (decide (List.length xs < 1152921504606846976)&&List.all xs (Bq t))=true
  rw [C2 (by have:=Gb h1; omega),Bool.true_and]
  exact List.all_eq_true.2 fun a ha=>O6 (List.all_eq_true.1 h2 a ha)
 | .unit,_,_=>rfl
 | .pair a b,x,h=>by
  have h:(Ml a x.1&&Ml b x.2)=true:=h
  obtain ⟨h1,h2⟩:=I0 h
  show (Bq a x.1&&Bq b x.2)=true
  rw [O6 h1,O6 h2]; rfl
theorem Ack (t:Ty) (n:Nat) (k:Int):List.length (w5 t n k)=n:=Aa7 _ _ _ _
section
variable {α:Type} {mk:Nat→Int→List α} {c:Nat}
theorem Xy:∀ (xs:List (List α)) (k:Int),(Em mk c xs k).length=xs.length
 | [],_=>rfl
 | x::r,k=>by simp [Em,Xy r]
theorem Uf (hm:∀ n k,(mk n k).length=n):∀ (xs:List (List α)) (k:Int),D6 (Em mk c xs k)=D6 xs
 | [],_=>rfl
 | x::r,k=>by simp only [Em,D6,hm,Uf hm r]
theorem R3 (hm:∀ n k,(mk n k).length=n):∀ (xs:List (List α)) (k:Int),Em mk c (Em mk c xs k) k=Em mk c xs k
 | [],_=>rfl
 | x::r,k=>by simp only [Em,hm,R3 hm r]
end
theorem Afx (t:Ty) (x:List t.D):eqR t x x=true:=K8 (.sl t) x
theorem Ahq {k:Int} {n m:Nat} (h:(decide (1≤k)&&decide (k≤562949953421312)&&decide (n≤1099511627776)&&decide (m≤1099511627776))=true):1≤k∧k≤562949953421312∧n≤1099511627776∧m≤1099511627776:=by
 obtain ⟨h,h4⟩:=I0 h
 obtain ⟨h1,h2,h3⟩:=Ag3 h
 exact ⟨Gb h1,Gb h2,Gb h3,Gb h4⟩
theorem x4 {t:Ty} {xs:List (List t.D)} {k:Int} {r:Int×List (List t.D)} (h:Qk t xs k=some r):1≤k∧k≤562949953421312∧xs.length≤1099511627776∧D6 xs * Td t≤1099511627776∧(k + D6 xs * Td t,Xp t xs k)=r:=by
 unfold Qk at h
 split at h
 ·rename_i hc
  obtain ⟨h1,h2,h3,h4⟩:=Ahq hc
  exact ⟨h1,h2,h3,h4,Option.some.inj h⟩
 ·cases h
theorem Adm {t:Ty} {xs:List (List t.D)} {k:Int} (h1:1≤k) (h2:k≤562949953421312) (h3:xs.length≤1099511627776) (h4:D6 xs * Td t≤1099511627776):Qk t xs k=some (k + D6 xs * Td t,Xp t xs k):=by
 unfold Qk
 rw [if_pos (by rw [C2 h1,C2 h2,C2 h3,C2 h4]; rfl)]
theorem x5 {t:Ty} {xs:List (List t.D)} {k:Int} {r:Int} (h:Ql t xs k=some r):1≤k∧k≤562949953421312∧xs.length≤1099511627776∧D6 xs * Td t≤1099511627776∧(if Px (eqR t) xs (Xp t xs k)=true then k + D6 xs * Td t else -1)=r:=by
 unfold Ql at h
 split at h
 ·rename_i hc
  obtain ⟨h1,h2,h3,h4⟩:=Ahq hc
  exact ⟨h1,h2,h3,h4,Option.some.inj h⟩
 ·cases h
theorem Adn {t:Ty} {xs:List (List t.D)} {k:Int} (h1:1≤k) (h2:k≤562949953421312) (h3:xs.length≤1099511627776) (h4:D6 xs * Td t≤1099511627776):Ql t xs k=some (if Px (eqR t) xs (Xp t xs k)=true then k + D6 xs * Td t else -1):=by
 unfold Ql
 rw [if_pos (by rw [C2 h1,C2 h2,C2 h3,C2 h4]; rfl)]
theorem Ag4 {t:Ty} {xs:List (List t.D)} {k:Int} (c:Nat) (hc:Td t=c) (h1:1≤k) (h2:k≤562949953421312) (h3:xs.length≤1073741824) (h4:D6 xs≤1073741824) (h5:c≤1000):
  ∃ k' ys,Qk t xs k=some (k',ys)∧k≤k'∧k'≤k + 1073741824 * (c:Int)∧Ql t ys k=some k':=by
 have h6:D6 xs * Td t≤1099511627776:=by
  rw [hc]
  exact Nat.le_trans (Nat.mul_le_mul h4 h5) (by decide)
 have e1:D6 (Xp t xs k)=D6 xs:=Uf (Ack t) xs k
 have e2:(Xp t xs k).length=xs.length:=Xy xs k
 have e3:Xp t (Xp t xs k) k=Xp t xs k:=R3 (Ack t) xs k
 refine ⟨_,_,Adm h1 h2 (by omega) h6,?_,?_,?_⟩
 ·have:(0:Int)≤(D6 xs:Int) * (Td t:Int):=Int.mul_nonneg (by omega) (by omega)
  omega
 ·rw [hc]
  have:(D6 xs:Int) * (c:Int)≤1073741824 * (c:Int):=Int.mul_le_mul_of_nonneg_right (by omega) (by omega)
  omega
 ·rw [Adn h1 h2 (by rw [e2]; omega) (by rw [e1]; exact h6),e1,e3]
  exact congrArg some (if_pos (Xx (Afx t) _))
section
variable {α E:Type} {mk:Nat→Int→List α} {c:Nat}
theorem x6 (x:List α) (r:List (List α)) (c:Nat):((D6 (x::r):Nat):Int) * (c:Int)=(x.length:Int) * c + D6 r * c:=by
 show (((x.length + D6 r:Nat):Int)) * _=_
 rw [Int.natCast_add,Int.add_mul]
theorem Acl (n:Nat) {c:Nat} (h:1≤c):(n:Int)≤(n:Int) * c:=by
 have:=Int.mul_le_mul_of_nonneg_left (c:=(n:Int)) (show (1:Int)≤c by omega) (by omega)
 omega
theorem Ug {g:Nat→Int→Int→List (List α)→Option E} {ok:Int→List (List α)→E}
  (hs:∀ m (i:Nat) (k:Int) (r:List (List α)) (x:List α),i < r.length→r.length < 4611686018427387904→r.getD i []=x→1≤k→k + x.length * c≤1125899906842624→x.length≤1125899906842624→g (m + 1) k i r=g m (k + x.length * c) ((i + 1:Nat):Int) (r.set i (mk x.length k)))
  (he:∀ m k (r:List (List α)),g (m + 1) k (r.length:Int) r=some (ok k r)) (h0:1≤c):
  ∀ (rest pre:List (List α)) (m:Nat) (k:Int),rest.length < m→pre.length + rest.length < 4611686018427387904→1≤k→k + D6 rest * c≤1125899906842624→g m k (pre.length:Int) (pre++rest)=some (ok (k + D6 rest * c) (pre++Em mk c rest k))
 | [],pre,0,k,hm,_,_,_=>by omega
 | [],pre,m + 1,k,hm,_,_,_=>by
  have:=he m k pre
  simp only [D6,Em,List.append_nil]
  rw [this]
  simp
 | x::r,pre,0,k,hm,_,_,_=>by omega
 | x::r,pre,m + 1,k,hm,hl,h1,hK=>by
  have hx:(pre++x::r).getD pre.length []=x:=by rw [List.getD_eq_getElem?_getD,List.getElem?_append_right (Nat.le_refl _),Nat.sub_self]; rfl
  have hT:=x6 x r c
  have hr0:(0:Int)≤(D6 r:Int) * c:=Int.mul_nonneg (by omega) (by omega)
  have hx1:=Acl x.length h0
  rw [hs m pre.length k (pre++x::r) x (by simp) (by simpa using hl) hx h1 (by omega) (by omega)]
  have hset:(pre++x::r).set pre.length (mk x.length k)=(pre++[mk x.length k])++r:=by
   rw [List.set_append_right _ _ (Nat.le_refl _),Nat.sub_self]
   simp
  rw [hset]
  have hlen:((pre.length + 1:Nat):Int)=((pre++[mk x.length k]).length:Nat):=by simp
  simp only [List.length_cons] at hl hm
  rw [hlen,Ug hs he h0 r (pre++[mk x.length k]) m _ (by omega) (by simp; omega) (by omega) (by omega)]
  rw [hT,List.append_assoc,Int.add_assoc]
  rfl
theorem Uh (f:List α→List α→Bool) {ys:List (List α)} {g:Nat→Int→Int→Option E} {ok:Int→E} {bad:E} (hl:ys.length < 4611686018427387904)
  (hs:∀ m (i:Nat) (k:Int) (x:List α),i < ys.length→ys.getD i []=x→1≤k→k + x.length * c≤1125899906842624→x.length≤1125899906842624→g (m + 1) k i=bif f x (mk x.length k) then g m (k + x.length * c) ((i + 1:Nat):Int) else some bad)
  (he:∀ m k,g (m + 1) k (ys.length:Int)=some (ok k)) (h0:1≤c):
  ∀ (rest pre:List (List α)) (m:Nat) (k:Int),ys=pre++rest→rest.length < m→1≤k→k + D6 rest * c≤1125899906842624→g m k (pre.length:Int)=some (bif Px f rest (Em mk c rest k) then ok (k + D6 rest * c) else bad)
 | [],pre,0,k,_,hm,_,_=>by omega
 | [],pre,m + 1,k,hy,hm,_,_=>by
  have hy:ys=pre:=by rw [hy,List.append_nil]
  rw [← hy,he]
  simp [Px,D6,Em]
 | x::r,pre,0,k,_,hm,_,_=>by omega
 | x::r,pre,m + 1,k,hy,hm,h1,hK=>by
  have hx:ys.getD pre.length []=x:=by rw [hy,List.getD_eq_getElem?_getD,List.getElem?_append_right (Nat.le_refl _),Nat.sub_self]; rfl
  have hT:=x6 x r c
  have hr0:(0:Int)≤(D6 r:Int) * c:=Int.mul_nonneg (by omega) (by omega)
  have hx1:=Acl x.length h0
  have hlt:pre.length < ys.length:=by rw [hy]; simp
  rw [hs m pre.length k x hlt hx h1 (by omega) (by omega),hT]
  simp only [Em,Px]
  have hlen:((pre.length + 1:Nat):Int)=((pre++[x]).length:Nat):=by simp
  cases f x (mk x.length k) with
  | false=>rfl
  | true=>
   simp only [List.length_cons] at hm
   rw [cond_true,hlen,Uh f hl hs he h0 r (pre++[x]) m _ (by rw [hy]; simp) (by omega) (by omega) (by omega),Bool.true_and,Int.add_assoc]
end
theorem Ai4 {t:Ty} {xs:List t.D} {k:Int} (c:Nat) (hc:Td t=c) (h1:1≤k) (h2:k≤1125899906842624) (h3:List.length xs≤1073741824):
  ∃ k' ys,Py t xs k=some (k',ys)∧k≤k'∧k'≤k + 1073741824 * (c:Int)∧Xo t ys k=some k':=by
 refine ⟨_,_,w8 h1 h2 (by omega),?_,?_,?_⟩
 ·have:(0:Int)≤(List.length xs:Int) * (Td t:Int):=Int.mul_nonneg (by omega) (by omega)
  omega
 ·rw [hc]
  have:(List.length xs:Int) * (c:Int)≤1073741824 * (c:Int):=Int.mul_le_mul_of_nonneg_right (by omega) (by omega)
  omega
 ·have hl:(w5 t (List.length xs) k).length=List.length xs:=Aa7 _ _ _ _
  rw [w9 h1 h2 (by omega),hl]
  exact congrArg some (if_pos (K8 (.sl t) _))
theorem bi_ {α β:Type} {m:Option α} {f:α→Option β} {a:α} {r:Option β} (h:m=some a) (h2:f a=r):m.bind f=r:=by
 rw [h]; exact h2
theorem x7 {α:Type} {l:List α} {z:α} {P:α→Prop} (h:∀ i,i < l.length→P (l.getD i z)):∀ x∈l,P x:=by
 intro x hx
 obtain ⟨i,hi,rfl⟩:=List.mem_iff_getElem.1 hx
 have:=h i hi
 rw [List.getD_eq_getElem?_getD,List.getElem?_eq_getElem hi] at this
 exact this
theorem Xz (a:List Int):(strOfNums a).size=a.length:=by
 unfold strOfNums
 show (List.toArray _).size=_
 simp
theorem x8 {v lo hi:Int} (h:Z0 v lo hi=true):lo≤v∧v≤hi:=⟨Gb (I0 h).1,Gb (I0 h).2⟩
theorem Z3 (s:Aj):(Au s).length=s.size:=by
 unfold Au
 rw [List.length_map]
 rfl
theorem Z4 (s:Aj):Ei (Au s)=true:=by
 refine List.all_eq_true.2 fun x hx=>?_
 obtain ⟨b,_,rfl⟩:=List.mem_map.1 hx
 have:=b.toNat_lt
 show (decide (0≤(b.toNat:Int))&&decide ((b.toNat:Int) < 256))=true
 rw [C2 (by omega),C2 (by omega)]
 rfl
theorem Fw (a b:List Int):Ei (a++b)=(Ei a&&Ei b):=List.all_append
theorem Acm (n:Nat) (h:n < 256):Ei [nI n]=true:=by
 show ((decide (0≤nI n)&&decide (nI n < 256))&&true)=true
 rw [C2 (by simp only [nI]; omega),C2 (by simp only [nI]; omega)]
 rfl
theorem Z5 {c:Aq} (h:N2 c=true):1≤c.1.size∧c.1.size≤20∧c.2.1.size≤100:=by
 obtain ⟨h1,h2⟩:=I0 h
 obtain ⟨h2,_⟩:=I0 h2
 have:=x8 h1
 have:=Gb h2
 omega
theorem Ui {c:Aq} (h:N2 c=true):Ei (Adj c)=true∧(Adj c).length≤200:=by
 obtain ⟨k1,k2,k3⟩:=Z5 h
 unfold Adj
 have a1:=Acm c.1.size (by omega)
 have a2:=Acm c.2.1.size (by omega)
 have b1:Ei [1,nI c.1.size]=true:=by
  rw [show [1,nI c.1.size]=[1]++[nI c.1.size] from rfl,Fw,a1]; rfl
 have b0:Ei [0,nI c.1.size]=true:=by
  rw [show [0,nI c.1.size]=[0]++[nI c.1.size] from rfl,Fw,a1]; rfl
 cases c.2.2.1
 ·simp only [cond_false,Fw,b0,a2,Z4,Jm,Z3,List.length_cons,List.length_nil]
  exact ⟨rfl,by omega⟩
 ·simp only [cond_true,Fw,b1,Z4,Jm,Z3,List.length_cons,List.length_nil]
  exact ⟨rfl,by omega⟩
theorem Y1 {b:List Aq} (h:Iy b=true):b.length≤20∧∀ i,i < b.length→N2 (b.getD i zC)=true:=by
 obtain ⟨h1,h2⟩:=I0 h
 refine ⟨by have:=(x8 h1).2; omega,fun i hi=>?_⟩
 exact List.all_eq_true.1 h2 i (List.mem_range'_1.2 ⟨by omega,by omega⟩)
def Afy (i:Nat) (r:List Int):Prop:=r.length≤200 * i∧Ei r=true
theorem Afy.step {i:Nat} {r:List Int} {c:Aq} (h:Afy i r) (hc:N2 c=true):Afy (i + 1) (r++Adj c):=by
 obtain ⟨q1,q2⟩:=Ui hc
 exact ⟨by rw [Jm]; have:=h.1; omega,by rw [Fw,h.2,q1]; rfl⟩
theorem Ado {b:List Aq} (h:Iy b=true):1≤b.length∧b.length≤20∧∀ c∈b,N2 c=true:=by
 obtain ⟨h1,h2⟩:=Y1 h
 refine ⟨by have:=(x8 (I0 h).1).1; omega,h1,x7 (z:=zC) (P:=fun c=>N2 c=true) h2⟩
theorem Adp {a n:Int} (hn:0 < n):(a + n - 1) / n=1 + (a - n + n - 1) / n:=by
 have:a + n - 1=(a - n + n - 1) + n * 1:=by omega
 rw [this,Int.add_mul_ediv_left _ _ (by omega)]
 omega
theorem Z6 (n:Nat) (hn:1≤n):∀ (f:Nat) (s:Aj),s.size≤f→((O5 n f s).length:Int)=if ((s.size:Int) + n - 1) / n > 1 then ((s.size:Int) + n - 1) / n else 1
 | 0,s,h=>by
  have h0:s.size=0:=by omega
  simp only [O5,h0]
  have:(((0:Nat):Int) + n - 1) / n=0:=Int.ediv_eq_zero_of_lt (by omega) (by omega)
  exact (if_neg (by rw [this]; decide)).symm
 | f + 1,s,h=>by
  by_cases q:s.size > n
  ·have hc:(Ge s n (nI s.size)).size=s.size - n:=by rw [Aa9 (by omega) (by simp only [nI]; omega) (by simp [nI])]; simp only [nI]; omega
   simp only [O5,if_pos q,List.length_cons]
   have ih:=Z6 n hn f (Ge s n (nI s.size)) (by omega)
   rw [hc] at ih
   have e:=Adp (a:=s.size) (n:=n) (by omega)
   have e2:((s.size - n:Nat):Int)=(s.size:Int) - n:=by omega
   rw [e2] at ih
   have hp:1≤((s.size:Int) - n + n - 1) / n:=by
    rw [Int.le_ediv_iff_mul_le (by omega)]
    omega
   rw [e]
   generalize ((s.size:Int) - n + n - 1) / n=y at *
   rw [if_pos (by omega)]
   split at ih<;>omega
  ·simp only [O5,if_neg q]
   have:((s.size:Int) + n - 1) / n < 2:=by
    rw [Int.ediv_lt_iff_lt_mul (by omega)]
    omega
   exact (if_neg (by omega)).symm
theorem Aba {s:Aj} {w:Int} (hw:Z0 w 1 8=true):((l3 s w).length:Int)=if ((s.size:Int) + (56 - w) - 1) / (56 - w) > 1 then ((s.size:Int) + (56 - w) - 1) / (56 - w) else 1:=by
 obtain ⟨h1,h2⟩:=x8 hw
 obtain ⟨n,hn⟩:∃ n:Nat,56 - w=(n:Int):=⟨(56 - w).toNat,by omega⟩
 unfold l3
 rw [hn,Hl]
 exact Z6 n (by omega) s.size s (Nat.le_refl _)
theorem Uj (life w:Int):∀ (L:List Aj) (k:Int),Acf life w k L=(List.range' 0 L.length).map (fun i=>Ue ((if i + 1=L.length then 2 else 1),life,k + (i:Int),L.getD i z0,()) w)
 | [],k=>rfl
 | [p],k=>by
  show [Ue (2,life,k,p,()) w]=[Ue ((if 0 + 1=1 then 2 else 1),life,k + ((0:Nat):Int),p,()) w]
  rw [if_pos rfl,show k + ((0:Nat):Int)=k by omega]
 | p::q::r,k=>by
  have ih:=Uj life w (q::r) (k + 1)
  show Ue (1,life,k,p,()) w::Acf life w (k + 1) (q::r)=(List.range' 0 ((q::r).length + 1)).map (fun i=>Ue ((if i + 1=(q::r).length + 1 then 2 else 1),life,k + (i:Int),(p::q::r).getD i z0,()) w)
  rw [ih,List.range'_succ,List.map_cons]
  congr 1
  ·rw [if_neg (by rw [List.length_cons]; omega),show k + ((0:Nat):Int)=k by omega]
   rfl
  ·rw [show List.range' (0 + 1) (q::r).length=List.map (fun x=>1 + x) (List.range' 0 (q::r).length) by rw [List.map_add_range'],List.map_map]
   refine List.map_congr_left fun i _=>?_
   show _=Ue ((if 1 + i + 1=(q::r).length + 1 then 2 else 1),life,k + ((1 + i:Nat):Int),(p::q::r).getD (1 + i) z0,()) w
   rw [show k + ((1 + i:Nat):Int)=k + 1 + (i:Int) by omega,show 1 + i=i + 1 by omega]
   by_cases e:i + 1=(q::r).length
   ·rw [if_pos e,if_pos (by omega)]; rfl
   ·rw [if_neg e,if_neg (by omega)]; rfl
theorem Kr.sync {d:Dk} (h:Kr d):Kr (Ahn d):=by
 have hl:=l4 d.1 d.2.1
 have hs:x3 d.1.length (w6 d.1 d.2.1):=Tg (x3 d.1.length) _ d.2.1 0 d.1 (fun i s w hw hI=>hI.set (x7 (z:=zW) (P:=fun w:Wr=>w.2.1.size=64) (fun i hi=>(h.pen i hi).2.2) w hw)) ⟨rfl,h.sec⟩
 exact ⟨by show 8≤(w6 d.1 d.2.1).length; rw [hl]; exact h.n8,by show (w6 d.1 d.2.1).length≤200; rw [hl]; exact h.n200,by show (0:Nat)≤300; omega,fun i hi=>hs.2 i (by rw [← hl]; exact hi),fun i hi=>absurd hi (by show ¬ i < 0; omega)⟩
theorem Kr.op {d:Dk} (h:Kr d) (o:Opn):Kr (opS d o):=by
 unfold opS
 cases o.1 with
 | true=>exact h.sync
 | false=>
  cases hc:Aiz d.1.length (o.2.1,o.2.2.1,())&&decide (d.2.1.length < 300) with
  | false=>exact h
  | true=>
   obtain ⟨h1,h2⟩:=I0 hc
   obtain ⟨q1,q2⟩:=I0 h1
   obtain ⟨q2,q3⟩:=I0 q2
   have h2:=Gb h2
   refine ⟨h.n8,h.n200,by show (d.2.1++[(o.2.1,o.2.2.1,())]).length≤300; rw [Jm,Acp]; omega,h.sec,fun i hi=>?_⟩
   have hi:i < d.2.1.length + 1:=by
    have hi:i < (d.2.1++[(o.2.1,o.2.2.1,())]).length:=hi
    rw [Jm,Acp] at hi
    exact hi
   show 0≤((d.2.1++[(o.2.1,o.2.2.1,())]).getD i zW).1∧((d.2.1++[(o.2.1,o.2.2.1,())]).getD i zW).1 < (d.1.length:Int)∧((d.2.1++[(o.2.1,o.2.2.1,())]).getD i zW).2.1.size=64
   by_cases e:i < d.2.1.length
   ·have:(d.2.1++[(o.2.1,o.2.2.1,())]).getD i zW=d.2.1.getD i zW:=by
     rw [List.getD_eq_getElem?_getD,List.getElem?_append_left e,← List.getD_eq_getElem?_getD]
    rw [this]
    exact h.pen i e
   ·obtain rfl:i=d.2.1.length:=by omega
    have:(d.2.1++[(o.2.1,o.2.2.1,())]).getD d.2.1.length zW=(o.2.1,o.2.2.1,()):=by
     rw [List.getD_eq_getElem?_getD,List.getElem?_append_right (Nat.le_refl _),Nat.sub_self]
     rfl
    rw [this]
    exact ⟨Gb q1,Gb q2,Gb q3⟩
theorem Kr.ops:∀ (l:List Opn) {d:Dk},Kr d→Kr (l.foldl opS d)
 | [],_,h=>h
 | o::r,_,h=>Kr.ops r (h.op o)
end
end Go.Proofs.Ytjokieaajjmoeaa.V

namespace Go.Proofs.Ytjokieaajjmoeaa.V
open Go Go.Proofs.Ytjokieaajjmoeaa.R
theorem Qm {α σ E:Type} {xs:List α} (z:α) (Inv:Nat→σ→Prop) (step:Nat→α→σ→σ) {g:Nat→Int→σ→Option E} {ok:σ→E}
  (hs:∀ m (i:Nat) s,i < xs.length→Inv i s→g (m + 1) i s=g m ((i + 1:Nat):Int) (step i (xs.getD i z) s))
  (hi:∀ i s,i < xs.length→Inv i s→Inv (i + 1) (step i (xs.getD i z) s))
  (he:∀ m s,Inv xs.length s→g (m + 1) (xs.length:Int) s=some (ok s)):
  ∀ (m i:Nat) s,i≤xs.length→xs.length - i < m→Inv i s→g m i s=some (ok (Xq step i (xs.drop i) s))
 | 0,i,s,_,hm,_=>by omega
 | m + 1,i,s,hl,hm,hI=>by
  by_cases h:i < xs.length
  ·rw [hs m i s h hI,Qm z Inv step hs hi he m (i + 1) _ (by omega) (by omega) (hi i s h hI),Gu xs i z h]
   rfl
  ·have:i=xs.length:=by omega
   subst this
   rw [he _ _ hI,List.drop_length]
   rfl
theorem l5 (n:Nat) (h:n < 1099511627776):IntKind.wrap IntKind.i64 (nI (n + 1) - 1)=(n:Int):=by
 simp only [nI]
 rw [D2 (by omega) (by omega)]
 omega
theorem Afz (i:Nat):(Int.tmod (i:Int) 20==0)=(i % 20==0):=by
 have:Int.tmod (i:Int) 20=((i % 20:Nat):Int):=by rw [Int.tmod_eq_emod_of_nonneg (by omega)]; omega
 rw [this]
 by_cases h:i % 20=0
 ·rw [h]; rfl
 ·rw [beq_eq_false_iff_ne.2 h]
  exact beq_eq_false_iff_ne.2 (by omega)
theorem x9 {α:Type} (c:Bool) (xs:List α) (y:α):(C8 c xs y).length=xs.length + c.toNat:=by cases c<;>simp [C8]
def Z7 (i:Nat) (s:List (List Aq)×Bool×List Aq):Prop:=i≤100∧s.1.length≤i∧(0 < i→s.2.1=true)∧s.2.2.length≤i
theorem Z7.step {i:Nat} {s:List (List Aq)×Bool×List Aq} (h:Z7 i s) (h1:i < 100) (p:Bi):Z7 (i + 1) (Dw i p s):=by
 obtain ⟨_,h2,h3,h4⟩:=h
 unfold Dw
 cases hc:(i % 20==0)
 ·have:0 < i:=Nat.pos_of_ne_zero fun q=>by subst q; cases hc
  refine ⟨by omega,by simp only [cond_false]; omega,fun _=>h3 this,?_⟩
  simp only [cond_false,Jm,Acp]
  omega
 ·refine ⟨by omega,?_,fun _=>rfl,by simp⟩
  simp only [cond_true]
  rw [x9]
  by_cases q:0 < i
  ·rw [h3 q]; simp; omega
  ·cases s.2.1<;>simp<;>omega
theorem Fy {s:Ko} (h:Cf s=true):s.1.length≤100:=Gb (I0 h).1
theorem Af0 (s:Aj) (w:Int):(bif Z0 w 1 8 then ((l3 s w).length:Int) else 0)=N3 s.size w:=by
 unfold N3
 cases hw:Z0 w 1 8 with
 | false=>rfl
 | true=>exact Aba hw
theorem Z8 (n:Nat) (w:Int):0≤N3 n w∧N3 n w≤(n:Int) + 1:=by
 unfold N3
 cases hw:Z0 w 1 8 with
 | false=>exact ⟨Int.le_refl _,by simp only [cond_false]; omega⟩
 | true=>
  obtain ⟨h1,h2⟩:=x8 hw
  simp only [cond_true]
  have hc:w=1∨w=2∨w=3∨w=4∨w=5∨w=6∨w=7∨w=8:=by omega
  rcases hc with rfl | rfl | rfl | rfl | rfl | rfl | rfl | rfl<;>split<;>omega
theorem Abb {b:List Aq} (h:∀ c∈b,N2 c=true):(Te b).length≤200 * b.length:=by
 induction b with
 | nil=>simp [Te]
 | cons c r ih=>
  have h1:=(Ui (h c (by simp))).2
  have h2:=ih fun c hc=>h c (by simp [hc])
  have e:Te (c::r)=Adj c++Te r:=rfl
  rw [e,Jm,List.length_cons]
  omega
theorem X0 (b:List Aq):(R0 b).size≤4000:=by
 unfold R0
 cases hv:Iy b with
 | false=>exact Nat.zero_le _
 | true=>
  obtain ⟨_,h2,h3⟩:=Ado hv
  have:=Abb h3
  show (strOfNums (Te b)).size≤4000
  rw [Xz]
  omega
theorem Z9 {α σ:Type} (z:α) (Inv:Nat→σ→Prop) (step:Nat→α→σ→σ) {xs:List α} (hi:∀ i s,i < xs.length→Inv i s→Inv (i + 1) (step i (xs.getD i z) s)):
  ∀ (k i:Nat) s,i + k=xs.length→Inv i s→Inv xs.length (Xq step i (xs.drop i) s)
 | 0,i,s,h,hI=>by
  have:i=xs.length:=by omega
  subst this
  rw [List.drop_length]
  exact hI
 | k + 1,i,s,h,hI=>by
  rw [Gu xs i z (by omega)]
  exact Z9 z Inv step hi k (i + 1) _ (by omega) (hi i s (by omega) hI)
theorem a8 (s:Ko):(Hv s).length≤101:=by
 unfold Hv
 cases hv:Cf s with
 | false=>simp
 | true=>
  have hl:=Fy hv
  have:=Z9 zP Z7 Dw (xs:=s.1) (fun i r hi hI=>hI.step (by omega) _) s.1.length 0 ([],false,[]) (by omega) ⟨by omega,by simp,fun q=>by omega,by simp⟩
  simp only [cond_true]
  rw [x9]
  have h1:=this.2.1
  show (Xr 0 s.1 ([],false,[])).1.length + _≤101
  have h2:(Xr 0 s.1 ([],false,[])).2.1.toNat≤1:=by cases (Xr 0 s.1 ([],false,[])).2.1<;>decide
  have h3:(Xr 0 s.1 ([],false,[])).1.length≤s.1.length:=h1
  omega
def Aif (i:Nat) (a:Int):Prop:=i≤101∧0≤a∧a≤5000 * (i:Int)
theorem Aif.step {i:Nat} {a:Int} (h:Aif i a) (hi:i < 101) (b:List Aq) (w:Int):Aif (i + 1) (a + N3 (R0 b).size w):=by
 have h1:=Z8 (R0 b).size w
 have h2:=X0 b
 obtain ⟨_,h3,h4⟩:=h
 exact ⟨by omega,by omega,by omega⟩
abbrev ScT:=Int×Int×Aj×List Aj×Int×Int
def seen (d:Dk) (a:Int) (k n:Nat):List Aj:=(List.range' k n).map fun k:Nat=>Ajk d (a + (k:Int))
def Ahr (i:Nat) (s:ScT):Prop:=i≤200∧s.2.2.1.size≤64 * i∧s.2.2.2.1.length≤i
theorem Ahr.zero (a b c l:Int):Ahr 0 (a,b,z0,[],c,l):=⟨by omega,Nat.le_refl 0,Nat.le_refl 0⟩
def Af1 (w life first:Int) (b:List Aq) (L:List Aj):List Aj:=L++Aie (R0 b) life (first + (L.length:Int)) w
def Af2 (s:Sto):Prop:=(0≤s.2.2.2.1.1∧s.2.2.2.1.1≤1000000000)∧(0≤s.2.2.2.1.2.1∧s.2.2.2.1.2.1≤1)∧(0≤s.2.2.2.1.2.2.1∧s.2.2.2.1.2.2.1≤1000000000)∧s.2.2.2.2.2.2.1.1.length≤1000000
instance (s:Sto):Decidable (Af2 s):=by unfold Af2; infer_instance
theorem Ag5 (b:List Aq) (life f w:Int):(Aie (R0 b) life f w).length≤4001:=by
 unfold Aie
 cases hw:Z0 w 1 8 with
 | false=>simp
 | true=>
  cases hc:(true&&(Z0 life 1 60000&&(decide (1≤f)&&decide (f≤1000000000 - N3 (R0 b).size w + 1)))) with
  | false=>simp
  | true=>
   simp only [cond_true]
   rw [Uj,List.length_map,List.length_range']
   have h1:=Af0 (R0 b) w
   rw [hw,cond_true] at h1
   have h2:=(Z8 (R0 b).size w).2
   have h3:=X0 b
   omega
def MvI (i:Nat) (L:List Aj):Prop:=i≤101∧L.length≤1 + 4001 * i
theorem MvI.step {i:Nat} {L:List Aj} (h:MvI i L) (hi:i < 101) (w life first:Int) (b:List Aq):MvI (i + 1) (Af1 w life first b L):=by
 obtain ⟨h1,h2⟩:=h
 refine ⟨by omega,?_⟩
 unfold Af1
 have:=Ag5 b life (first + (L.length:Int)) w
 rw [Jm]
 omega
theorem X3:∀ x:List UInt8,Op.bytesLess x x=false
 | []=>rfl
 | a::x=>by simp [Op.bytesLess,X3 x]
theorem a9:∀ {x y z:List UInt8},Op.bytesLess x y=true→Op.bytesLess y z=true→Op.bytesLess x z=true
 | [],[],_,h,_=>by simp [Op.bytesLess] at h
 | [],_::_,[],_,k=>by simp [Op.bytesLess] at k
 | [],_::_,_::_,_,_=>rfl
 | _::_,[],_,h,_=>by simp [Op.bytesLess] at h
 | _::_,_::_,[],_,k=>by simp [Op.bytesLess] at k
 | a::x,b::y,c::z,h,k=>by
  simp only [Op.bytesLess,Bool.or_eq_true,decide_eq_true_eq,Bool.and_eq_true,beq_iff_eq] at h k ⊢
  rcases h with h | ⟨rfl,h⟩
  ·rcases k with k | ⟨rfl,k⟩
   ·exact .inl (UInt8.lt_trans h k)
   ·exact .inl h
  ·rcases k with k | ⟨rfl,k⟩
   ·exact .inl k
   ·exact .inr ⟨rfl,a9 h k⟩
theorem Acn:∀ {x y:List UInt8},Op.bytesLess x y=false→Op.bytesLess y x=false→x=y
 | [],[],_,_=>rfl
 | [],_::_,h,_=>by simp [Op.bytesLess] at h
 | _::_,[],_,k=>by simp [Op.bytesLess] at k
 | a::x,b::y,h,k=>by
  simp only [Op.bytesLess,Bool.or_eq_false_iff,decide_eq_false_iff_not,Bool.and_eq_false_iff] at h k
  have hab:a=b:=by
   apply UInt8.le_antisymm
   ·exact UInt8.not_lt.1 k.1
   ·exact UInt8.not_lt.1 h.1
  subst hab
  have h2:Op.bytesLess x y=false:=by rcases h.2 with q | q<;>simp_all
  have k2:Op.bytesLess y x=false:=by rcases k.2 with q | q<;>simp_all
  rw [Acn h2 k2]
theorem O7 (a:Aj):bl a a=false:=X3 _
theorem X4 {a b c:Aj} (h:bl a b=true) (k:bl b c=true):bl a c=true:=a9 h k
theorem Af3 {a b:Aj} (h:bl a b=false) (k:bl b a=false):a=b:=Cv.1 (beq_iff_eq.2 (Acn h k))
theorem Ai5 {a b:Aj} (h:bl a b=true):a≠b:=fun q=>by rw [q,O7] at h; cases h
def Srt (l:List Bi):Prop:=l.Pairwise fun a b=>bl a.1 b.1=true
theorem Aco:∀ {l m:List Bi},Srt l→Srt m→(∀ x,x∈l↔x∈m)→l=m
 | [],[],_,_,_=>rfl
 | [],b::m,_,_,h=>by have:=(h b).2 List.mem_cons_self; cases this
 | a::l,[],_,_,h=>by have:=(h a).1 List.mem_cons_self; cases this
 | a::l,b::m,hl,hm,h=>by
  obtain ⟨l1,l2⟩:=List.pairwise_cons.1 hl
  obtain ⟨m1,m2⟩:=List.pairwise_cons.1 hm
  have hab:a=b:=by
   rcases List.mem_cons.1 ((h a).1 List.mem_cons_self) with q | q
   ·exact q
   ·rcases List.mem_cons.1 ((h b).2 List.mem_cons_self) with q2 | q2
    ·exact q2.symm
    ·have:=X4 (m1 a q) (l1 b q2)
     rw [O7] at this
     cases this
  subst hab
  rw [Aco l2 m2 fun x=>⟨fun q=>?_,fun q=>?_⟩]
  ·rcases List.mem_cons.1 ((h x).1 (List.mem_cons_of_mem _ q)) with rfl | q2
   ·have:=l1 x q; rw [O7] at this; cases this
   ·exact q2
  ·rcases List.mem_cons.1 ((h x).2 (List.mem_cons_of_mem _ q)) with rfl | q2
   ·have:=m1 x q; rw [O7] at this; cases this
   ·exact q2
theorem X5 (p x:Bi):∀ l:List Bi,x∈Wy p l↔x=p∨x∈l
 | []=>by simp [Wy]
 | q::r=>by
  simp only [Wy]
  cases ltK q p with
  | true=>simp only [cond_true,List.mem_cons,X5 p x r]; constructor<;>(rintro (h | h | h)<;>simp [h])
  | false=>simp only [cond_false,List.mem_cons]
theorem Th (x:Bi):∀ l:List Bi,x∈K0 l↔x∈l
 | []=>Iff.rfl
 | p::r=>by
  show x∈Wy p (K0 r)↔_
  rw [X5,Th x r,List.mem_cons]
theorem y5 {p:Bi}:∀ {l:List Bi},Srt l→(∀ q∈l,q.1≠p.1)→Srt (Wy p l)
 | [],_,_=>List.pairwise_singleton _ _
 | q::r,hl,hp=>by
  obtain ⟨l1,l2⟩:=List.pairwise_cons.1 hl
  simp only [Wy]
  cases hq:ltK q p with
  | true=>
   refine List.pairwise_cons.2 ⟨fun x hx=>?_,y5 l2 fun y hy=>hp y (List.mem_cons_of_mem _ hy)⟩
   rcases (X5 p x r).1 hx with rfl | h
   ·exact hq
   ·exact l1 x h
  | false=>
   have hpq:bl p.1 q.1=true:=by
    cases h:bl p.1 q.1 with
    | true=>rfl
    | false=>exact absurd (Af3 hq h) (hp q List.mem_cons_self)
   refine List.pairwise_cons.2 ⟨fun x hx=>?_,hl⟩
   rcases List.mem_cons.1 hx with rfl | h
   ·exact hpq
   ·exact X4 hpq (l1 x h)
theorem Eb {p:Bi} {r:List Bi}:D0 (p::r)=true↔(∀ q∈r,q.1≠p.1)∧D0 r=true:=by
 simp only [D0,Bool.and_eq_true,Bool.not_eq_true',List.any_eq_false]
 constructor
 ·rintro ⟨h1,h2⟩
  exact ⟨fun q hq e=>h1 q hq (by rw [e]; simp),h2⟩
 ·rintro ⟨h1,h2⟩
  exact ⟨fun q hq e=>h1 q hq (Cv.1 e),h2⟩
theorem b4:∀ {l:List Bi},D0 l=true→Srt (K0 l)
 | [],_=>List.Pairwise.nil
 | p::r,h=>by
  obtain ⟨h1,h2⟩:=Eb.1 h
  exact y5 (b4 h2) fun q hq=>h1 q ((Th q r).1 hq)
abbrev Mp:=List (Aj×Aj)
def Sm (m:Mp):List Bi:=m.map fun p=>(p.1,p.2,())
theorem X6 {k v:Aj} (x:Bi):∀ {m:Mp},D0 (Sm m)=true→(x∈Sm (O9 k v m)↔(x∈Sm m∧x.1≠k)∨x=(k,v,()))
 | [],_=>by simp [O9,Sm]
 | p::r,h=>by
  obtain ⟨h1,h2⟩:=Eb.1 (show D0 ((p.1,p.2,())::Sm r)=true from h)
  simp only [O9]
  cases hk:Nl p.1 k with
  | true=>
   have hk:=Cv.1 hk
   simp only [cond_true]
   show x∈(k,v,())::Sm r↔(x∈(p.1,p.2,())::Sm r∧_)∨_
   rw [List.mem_cons,List.mem_cons]
   constructor
   ·rintro (rfl | q)
    ·exact .inr rfl
    ·exact .inl ⟨.inr q,fun e=>h1 x q (by rw [e,hk])⟩
   ·rintro (⟨q | q,e⟩ | q)
    ·subst q
     exact absurd hk e
    ·exact .inr q
    ·exact .inl q
  | false=>
   have hk:p.1≠k:=fun q=>by rw [Cv.2 q] at hk; cases hk
   simp only [cond_false]
   show x∈(p.1,p.2,())::Sm (O9 k v r)↔(x∈(p.1,p.2,())::Sm r∧_)∨_
   rw [List.mem_cons,List.mem_cons,X6 x h2]
   constructor
   ·rintro (rfl | ⟨q,e⟩ | q)
    ·exact .inl ⟨.inl rfl,hk⟩
    ·exact .inl ⟨.inr q,e⟩
    ·exact .inr q
   ·rintro (⟨q | q,e⟩ | q)
    ·exact .inl q
    ·exact .inr (.inl ⟨q,e⟩)
    ·exact .inr (.inr q)
theorem X7 {k v:Aj}:∀ {m:Mp},D0 (Sm m)=true→D0 (Sm (O9 k v m))=true
 | [],_=>rfl
 | p::r,h=>by
  obtain ⟨h1,h2⟩:=Eb.1 (show D0 ((p.1,p.2,())::Sm r)=true from h)
  simp only [O9]
  cases hk:Nl p.1 k with
  | true=>
   have hk:=Cv.1 hk
   simp only [cond_true]
   exact Eb.2 ⟨fun q hq=>by rw [← hk]; exact h1 q hq,h2⟩
  | false=>
   have hk:p.1≠k:=fun q=>by rw [Cv.2 q] at hk; cases hk
   simp only [cond_false]
   refine Eb.2 ⟨fun q hq=>?_,X7 h2⟩
   rcases (X6 q h2).1 hq with ⟨a,_⟩ | rfl
   ·exact h1 q a
   ·exact fun e=>hk e.symm
theorem X8 {k:Aj} (x:Bi):∀ {m:Mp},D0 (Sm m)=true→(x∈Sm (Pa k m)↔x∈Sm m∧x.1≠k)
 | [],_=>by simp [Pa,Sm]
 | p::r,h=>by
  obtain ⟨h1,h2⟩:=Eb.1 (show D0 ((p.1,p.2,())::Sm r)=true from h)
  simp only [Pa]
  cases hk:Nl p.1 k with
  | true=>
   have hk:=Cv.1 hk
   simp only [cond_true]
   show x∈Sm r↔x∈(p.1,p.2,())::Sm r∧_
   rw [List.mem_cons]
   constructor
   ·intro q
    exact ⟨.inr q,fun e=>h1 x q (by rw [e,hk])⟩
   ·rintro ⟨q | q,e⟩
    ·subst q
     exact absurd hk e
    ·exact q
  | false=>
   have hk:p.1≠k:=fun q=>by rw [Cv.2 q] at hk; cases hk
   simp only [cond_false]
   show x∈(p.1,p.2,())::Sm (Pa k r)↔x∈(p.1,p.2,())::Sm r∧_
   rw [List.mem_cons,List.mem_cons,X8 x h2]
   constructor
   ·rintro (rfl | ⟨q,e⟩)
    ·exact ⟨.inl rfl,hk⟩
    ·exact ⟨.inr q,e⟩
   ·rintro ⟨q | q,e⟩
    ·exact .inl q
    ·exact .inr ⟨q,e⟩
theorem X9 {k:Aj}:∀ {m:Mp},D0 (Sm m)=true→D0 (Sm (Pa k m))=true
 | [],_=>rfl
 | p::r,h=>by
  obtain ⟨h1,h2⟩:=Eb.1 (show D0 ((p.1,p.2,())::Sm r)=true from h)
  simp only [Pa]
  cases hk:Nl p.1 k with
  | true=>exact h2
  | false=>
   simp only [cond_false]
   exact Eb.2 ⟨fun q hq=>h1 q ((X8 q h2).1 hq).1,X9 h2⟩
def gtS (a k:Aj):Bool:=!(bl a k || a.toList==k.toList)
def N4 (k v:Aj):Bool→List Bi→List Bi
 | d,[]=>bif d then [] else [(k,v,())]
 | d,p::r=>bif !d&&gtS p.1 k then (k,v,())::p::N4 k v true r else bif p.1.toList==k.toList then N4 k v d r else p::N4 k v d r
def Ai6 (c:Aq) (l:List Bi):List Bi:=N4 c.1 c.2.1 c.2.2.1 l
theorem Ahs {a k:Aj} (h:gtS a k=true):bl k a=true:=by
 unfold gtS at h
 rw [Bool.not_eq_true',Bool.or_eq_false_iff] at h
 cases q:bl k a with
 | true=>rfl
 | false=>exact absurd (Af3 h.1 q) (fun e=>by rw [e] at h; simp at h)
theorem L8 {k v:Aj} (x:Bi):∀ (l:List Bi) (d:Bool),x∈N4 k v d l↔(x∈l∧x.1≠k)∨(d=false∧x=(k,v,()))
 | [],d=>by cases d<;>simp [N4]
 | p::r,d=>by
  simp only [N4]
  cases hg:!d&&gtS p.1 k with
  | true=>
   obtain ⟨hd,hg⟩:=I0 hg
   have hd:d=false:=by cases d<;>simp_all
   have hp:p.1≠k:=fun e=>Ai5 (Ahs hg) e.symm
   subst hd
   simp only [cond_true,List.mem_cons,L8 x r true]
   constructor
   ·rintro (q | q | q | q)
    ·exact .inr ⟨by simp,q⟩
    ·exact .inl ⟨.inl q,by rw [q]; exact hp⟩
    ·exact .inl ⟨.inr q.1,q.2⟩
    ·cases q.1
   ·rintro (⟨q | q,e⟩ | q)
    ·exact .inr (.inl q)
    ·exact .inr (.inr (.inl ⟨q,e⟩))
    ·exact .inl q.2
  | false=>
   simp only [cond_false]
   cases he:p.1.toList==k.toList with
   | true=>
    have he:p.1=k:=Cv.1 he
    simp only [cond_true,List.mem_cons,L8 x r d]
    constructor
    ·rintro (q | q)
     ·exact .inl ⟨.inr q.1,q.2⟩
     ·exact .inr q
    ·rintro (⟨q | q,e⟩ | q)
     ·exact absurd (by rw [q]; exact he) e
     ·exact .inl ⟨q,e⟩
     ·exact .inr q
   | false=>
    have he:p.1≠k:=fun q=>by rw [show (p.1.toList==k.toList)=true from Cv.2 q] at he; cases he
    simp only [cond_false,List.mem_cons,L8 x r d]
    constructor
    ·rintro (q | q | q)
     ·exact .inl ⟨.inl q,by rw [q]; exact he⟩
     ·exact .inl ⟨.inr q.1,q.2⟩
     ·exact .inr q
    ·rintro (⟨q | q,e⟩ | q)
     ·exact .inl q
     ·exact .inr (.inl ⟨q,e⟩)
     ·exact .inr (.inr q)
theorem R4 {k v:Aj}:∀ (l:List Bi) (d:Bool),Srt l→Srt (N4 k v d l)
 | [],d,_=>by cases d<;>simp [N4,Srt]
 | p::r,d,h=>by
  obtain ⟨h1,h2⟩:=List.pairwise_cons.1 h
  simp only [N4]
  cases hg:!d&&gtS p.1 k with
  | true=>
   obtain ⟨hd,hg⟩:=I0 hg
   have hkp:=Ahs hg
   simp only [cond_true]
   have hall:∀ x∈N4 k v true r,x∈r:=fun x hx=>by
    rcases (L8 x r true).1 hx with q | q
    ·exact q.1
    ·cases q.1
   refine List.pairwise_cons.2 ⟨fun x hx=>?_,List.pairwise_cons.2 ⟨fun x hx=>h1 x (hall x hx),R4 r true h2⟩⟩
   rcases List.mem_cons.1 hx with rfl | q
   ·exact hkp
   ·exact X4 hkp (h1 x (hall x q))
  | false=>
   simp only [cond_false]
   cases he:p.1.toList==k.toList with
   | true=>exact R4 r d h2
   | false=>
    simp only [cond_false]
    refine List.pairwise_cons.2 ⟨fun x hx=>?_,R4 r d h2⟩
    rcases (L8 x r d).1 hx with q | ⟨hd,rfl⟩
    ·exact h1 x q.1
    ·subst hd
     have hn:gtS p.1 k=false:=by simpa using hg
     unfold gtS at hn
     rw [he,Bool.or_false,Bool.not_eq_false'] at hn
     exact hn
def Aht (c:Aq) (m:Mp):Mp:=bif c.2.2.1 then Pa c.1 m else O9 c.1 c.2.1 m
def Abc (m:Mp) (l:List Bi):Prop:=D0 (Sm m)=true∧Srt l∧∀ x,x∈Sm m↔x∈l
theorem Abc.step {m:Mp} {l:List Bi} (h:Abc m l) (c:Aq):Abc (Aht c m) (Ai6 c l):=by
 obtain ⟨h1,h2,h3⟩:=h
 unfold Aht Ai6
 cases hc:c.2.2.1 with
 | true=>
  refine ⟨X9 h1,R4 _ _ h2,fun x=>?_⟩
  simp only [cond_true]
  rw [X8 x h1,L8,h3]
  simp
 | false=>
  refine ⟨X7 h1,R4 _ _ h2,fun x=>?_⟩
  simp only [cond_false]
  rw [X6 x h1,L8,h3]
  simp
theorem Abc.sort {m:Mp} {l ys:List Bi} (h:Abc m l) (hn:D0 ys=true) (hy:∀ x,x∈ys↔x∈Sm m):K0 ys=l:=
 Aco (b4 hn) h.2.1 fun x=>by rw [Th,hy,h.2.2]
theorem Abc.len {m:Mp} {l:List Bi} (h:Abc m l):m.length=l.length:=by
 have:=congrArg List.length (h.sort h.1 fun _=>Iff.rfl)
 rw [O3] at this
 simpa [Sm] using this
def Ai7 (x:Bi):Prop:=Hu x.1=true∧x.2.1.size≤100
theorem Adq {s:Ko} (h:Cf s=true):∀ x∈s.1,Ai7 x:=fun x hx=>by
 obtain ⟨i,hi,rfl⟩:=Afw zP hx
 have:=Adl (I0 h).2 i hi
 unfold G8 at this
 obtain ⟨h1,h2⟩:=I0 this
 exact ⟨h1,Gb (I0 h2).1⟩
theorem Adr {p:Bi} (h:Ai7 p):N2 (Y0 p)=true:=by
 obtain ⟨h1,h2⟩:=h
 unfold N2 Y0
 rw [h1,C2 h2]
 rfl
def y6 (L:List (List Aq)) (m:List Bi):Prop:=L.flatten=m.map Y0∧∀ b∈L,1≤b.length∧b.length≤20
theorem y6.cons {b:List Aq} {L:List (List Aq)} {m:List Bi} (h:y6 (b::L) m):∃ x y,m=x++y∧b=x.map Y0∧1≤x.length∧x.length≤20∧y6 L y:=by
 obtain ⟨h1,h2⟩:=h
 obtain ⟨k1,k2⟩:=h2 b (by simp)
 rw [List.flatten_cons] at h1
 have hl:b.length≤m.length:=by
  have:=congrArg List.length h1
  simp only [Jm,List.length_map] at this
  omega
 have e1:b=(m.take b.length).map Y0:=by
  have:=congrArg (List.take b.length) h1
  rwa [List.take_left,← List.map_take] at this
 have e2:L.flatten=(m.drop b.length).map Y0:=by
  have:=congrArg (List.drop b.length) h1
  rwa [List.drop_left,← List.map_drop] at this
 have e3:(m.take b.length).length=b.length:=by simp; omega
 exact ⟨m.take b.length,m.drop b.length,(List.take_append_drop _ _).symm,e1,by omega,by omega,e2,fun c hc=>h2 c (by simp [hc])⟩
theorem b5 (c:Bool) (xs:List (List Aq)) (y:List Aq):(C8 c xs y).flatten=xs.flatten++(bif c then y else []):=by
 cases c<;>simp [C8]
theorem b6:∀ (m:List Bi) (i:Nat) (s:List (List Aq)×Bool×List Aq) (p:List Bi),i=p.length→s.1.flatten++(bif s.2.1 then s.2.2 else [])=p.map Y0→(∀ b∈s.1,1≤b.length∧b.length≤20)→
  (0 < i→s.2.1=true)→(s.2.1=true→s.2.2.length=(if i % 20=0 then 20 else i % 20)∧0 < i)→y6 (let r:=Xq Dw i m s; C8 r.2.1 r.1 r.2.2) (p++m)
 | [],i,s,p,hi,h1,h2,h3,h4=>by
  refine ⟨?_,fun b hb=>?_⟩
  ·show (C8 s.2.1 s.1 s.2.2).flatten=_
   rw [b5,h1,List.append_nil]
  ·have hb:b∈C8 s.2.1 s.1 s.2.2:=hb
   cases hc:s.2.1 with
   | false=>rw [hc] at hb; exact h2 b hb
   | true=>
    rw [hc] at hb
    obtain ⟨h5,h6⟩:=h4 hc
    have hb:b∈s.1++[s.2.2]:=hb
    rcases List.mem_append.1 hb with q | q
    ·exact h2 b q
    ·rw [List.mem_singleton.1 q,h5]
     split<;>omega
 | x::m,i,s,p,hi,h1,h2,h3,h4=>by
  have key:=b6 m (i + 1) (Dw i x s) (p++[x]) (by simp [hi]) (by
   unfold Dw
   cases hq:i % 20==0 with
   | true=>
    simp only [cond_true]
    rw [b5,h1]
    simp
   | false=>
    have hp:0 < i:=Nat.pos_of_ne_zero fun q=>by subst q; cases hq
    rw [h3 hp] at h1
    simp only [cond_false,h3 hp,cond_true] at h1 ⊢
    rw [← List.append_assoc,h1]
    simp) (by
   unfold Dw
   cases hq:i % 20==0 with
   | true=>
    simp only [cond_true]
    intro b hb
    cases hc:s.2.1 with
    | false=>rw [hc] at hb; exact h2 b hb
    | true=>
     rw [hc] at hb
     obtain ⟨h5,h6⟩:=h4 hc
     have hb:b∈s.1++[s.2.2]:=hb
     rcases List.mem_append.1 hb with q | q
     ·exact h2 b q
     ·rw [List.mem_singleton.1 q,h5]
      split<;>omega
   | false=>exact h2) (by
   intro _
   unfold Dw
   cases hq:i % 20==0 with
   | true=>rfl
   | false=>exact h3 (Nat.pos_of_ne_zero fun q=>by subst q; cases hq)) (by
   unfold Dw
   cases hq:i % 20==0 with
   | true=>
    intro _
    have hq:=beq_iff_eq.1 hq
    refine ⟨?_,by omega⟩
    show 1=_
    rw [if_neg (by omega)]
    omega
   | false=>
    intro hc
    have hq:=beq_eq_false_iff_ne.1 hq
    obtain ⟨h5,h6⟩:=h4 hc
    refine ⟨?_,by omega⟩
    show (s.2.2++[Y0 x]).length=_
    rw [Jm,Acp,h5,if_neg hq]
    split<;>omega)
  rw [List.append_assoc] at key
  exact key
theorem Abd {s:Ko} (h:Cf s=true):y6 (Hv s) s.1:=by
 unfold Hv
 rw [h,cond_true]
 exact b6 s.1 0 ([],false,[]) [] rfl rfl (fun b hb=>by cases hb) (fun q=>by omega) (fun q=>by cases q)
open Go Go.Proofs.Ytjokieaajjmoeaa.R Go.Proofs
set_option maxRecDepth 100000
def G4 (a:Bi) (left:Int):Option Int:=szM A5 a left
def Ya:M5:=⟨[.rd A5,.rd tI],[some 2,none],[.rd tI],[none]⟩
def N5:SD:=⟨Ya,fun x=>(G4 x.1 x.2.1).bind fun r=>some ((r,()),(()))⟩
def I2 (a0:Bi) (a1:Int):Option ((((Int)×Unit)×(Unit))):=
 bif decide (IntKind.i64.wrap (a1 - nI (ByteArray.size a0.1)) < 0) then some ((-1,()),()) else bif decide (IntKind.i64.wrap (IntKind.i64.wrap (a1 - nI (ByteArray.size a0.1)) - nI (ByteArray.size a0.2.1)) < 0) then some ((-1,()),()) else some ((IntKind.i64.wrap (IntKind.i64.wrap (a1 - nI (ByteArray.size a0.1)) - nI (ByteArray.size a0.2.1)),()),())
theorem Yb (a0:Bi) (a1:Int) r (h:G4 a0 a1=some r):I2 a0 a1=some ((r,()),(())):=by
 obtain ⟨hc,g0,g1,rfl⟩:=Xt (t:=A5) h
 obtain ⟨hc0,hc1,_⟩:Bq .str a0.1=true∧Bq .str a0.2.1=true∧True:=by
  have s:=hc
  obtain ⟨h0,s⟩:=B6 s
  obtain ⟨h1,s⟩:=B6 s
  exact ⟨h0,h1,trivial⟩
 unfold I2
 have hwt:(wt A5 a0:Int)=(ByteArray.size a0.1:Int) + (ByteArray.size a0.2.1:Int):=by simp only [wt]; omega
 rw [hwt]
 have hs0:ByteArray.size a0.1 < 1152921504606846976:=Z1 hc0
 have e0:IntKind.i64.wrap (a1 - nI (ByteArray.size a0.1))=a1 - (ByteArray.size a0.1:Int):=D2 (by simp only [nI]; omega) (by simp only [nI]; omega)
 simp only [e0]
 by_cases q0:a1 - (ByteArray.size a0.1:Int) < 0
 ·simp only [C2 q0,cond_true]; try rw [if_pos (by omega)]
 ·simp only [Na q0,cond_false]
  have hs1:ByteArray.size a0.2.1 < 1152921504606846976:=Z1 hc1
  have e1:IntKind.i64.wrap (a1 - (ByteArray.size a0.1:Int) - nI (ByteArray.size a0.2.1))=a1 - (ByteArray.size a0.1:Int) - (ByteArray.size a0.2.1:Int):=D2 (by simp only [nI]; omega) (by simp only [nI]; omega)
  simp only [e1]
  by_cases q1:a1 - (ByteArray.size a0.1:Int) - (ByteArray.size a0.2.1:Int) < 0
  ·simp only [C2 q1,cond_true]; try rw [if_pos (by omega)]
  ·simp only [Na q1,cond_false]
   rw [if_neg (by omega)]
   simp only [Int.sub_sub,Int.add_assoc]
theorem Yc:Fv Try.prog 22 N5:=
 D5 (pat:=Mk) [] Tc (Ea (l:=[]) trivial) trivial Try.func22 (de:=fun x=>I2 x.1 x.2.1) (fun x r h=>Dc (Yb x.1 x.2.1) h) fun _=>by kernel_rfl
def Ev (a:List Bi) (left:Int):Option Int:=szM (.sl A5) a left
def Up:M5:=⟨[.rd (.sl A5),.rd tI],[none,none],[.rd tI],[none]⟩
def Mm:SD:=⟨Up,fun x=>(Ev x.1 x.2.1).bind fun r=>some ((r,()),(()))⟩
def Mn:Tb:=tb [(22,N5)]
def Cz:Nat→D9×(Nat→D9):=Pb [(6,⟨[.sl 0 0 A5],[(0,.lf (.d (.sl A5))),(1,.lf (.d tI)),(5,.lf (.d tI))],[]⟩,[(2,⟨[],[(1,.lf (.d tI))],[]⟩),(1,⟨[],[(4,.lf (.d tI))],[]⟩)])]
def J3:Code:=(Bx (Ee Try.f13)).getD 0 .skip
def Cg (v0:List Bi) (v1 v5:Int):Nat:=((v0.length:Int) - v5).toNat + 1
def Dx {R:Type}  (NX:((List Bi)×(Int)×(Int)×Unit)→Option R) (X2:((Int)×Unit)→Option R) (X1:((Int)×Unit)→Option R) (v0:List Bi) (v1:Int) (v5:Int):Option R:=
 bif decide (v5 < nI v0.length) then bif decide (0≤v5) then bif decide (v5 < nI v0.length) then ((G4 (v0.getD v5.toNat (Ad,Ad,())) v1).bind fun val=>some ((val,()),())).bind fun val=>bif decide (val.1.1 < 0) then X1 (-1,()) else NX (v0,val.1.1,IntKind.i64.wrap (v5 + 1),()) else none else none else X2 (v1,())
def A8:Nat→(List Bi)→(Int)→(Int) →  Option (((Int)×Unit) ⊕ ((Int)×Unit))
 | 0,_,_,_=>none
 | m + 1,v0,v1,v5=>Dx  (fun d=>A8 m d.1 d.2.1 d.2.2.1) (fun d=>some (.inl (d))) (fun d=>some (.inr (d))) v0 v1 v5
def R5 (d:(List Bi)×(Int)×(Int)×Unit):Option (((Int)×Unit) ⊕ ((Int)×Unit)):=(Af (Af (Af A6))) (A8 ((Af (Af (Af A6))) Cg d)) d
def Hn (a0:List Bi) (a1:Int):Option ((((Int)×Unit)×(Unit))):=
 bif decide (IntKind.i64.wrap (a1 - nI a0.length) < 0) then some ((-1,()),()) else ((fun d=>A8 (Cg d.1 d.2.1 d.2.2.1) d.1 d.2.1 d.2.2.1) (a0,IntKind.i64.wrap (a1 - nI a0.length),0,())).bind fun val=>Fj (fun d=>some (d,())) (fun d=>some (d,())) val
theorem Uq (a0:List Bi) (a1:Int) r (h:Ev a0 a1=some r):Hn a0 a1=some ((r,()),(())):=by
 obtain ⟨hc,g0,g1,rfl⟩:=Xt (t:=.sl A5) h
 obtain ⟨hl0,hall⟩:=I1 hc
 have hl:a0.length < 1152921504606846976:=hl0
 clear hl0 hc
 ·unfold Hn
  have hw1:IntKind.i64.wrap (a1 - nI a0.length)=a1 - (a0.length:Int):=D2 (by simp only [nI]; omega) (by simp only [nI]; omega)
  rw [hw1]
  have hL:=Acg (xs:=a0) ((Ad),(Ad),()) (fun x:Bi=>wt A5 x) (g:=fun m l i=>A8 m a0 l i) (ok:=fun l=>.inl (l,())) (bad:=.inr (-1,())) (fun m i l hi h0 h1=>by
   show A8 (m + 1) a0 l i=_
   simp only [A8,Dx]
   rw [V1 hi,K6,wI (by omega)]
   simp only [cond_true,Hl]
   have hE:G4 (List.getD (α:=Bi) a0 i ((Ad),(Ad),())) l=some (if l - (wt A5 (List.getD (α:=Bi) a0 i ((Ad),(Ad),())):Int) < 0 then -1 else l - wt A5 (List.getD (α:=Bi) a0 i ((Ad),(Ad),()))):=by
    exact Aa6 (t:=A5) (x:=(List.getD (α:=Bi) a0 i ((Ad),(Ad),()))) (hall _ (Iz ((Ad),(Ad),()) hi)) h0 h1
   rw [hE]
   by_cases q:l - (wt A5 (List.getD (α:=Bi) a0 i ((Ad),(Ad),())):Int) < 0
   ·simp only [if_pos q,C2 q,Option.bind_some,cond_true]; rfl
   ·simp only [if_neg q,Na q,Option.bind_some,cond_false]
  ) (fun m l=>by
   show A8 (m + 1) a0 l a0.length=_
   simp only [A8,Dx]
   rw [R1]
   rfl) (Cg a0 (a1 - (a0.length:Int)) 0) 0 (a1 - (a0.length:Int)) (by omega) (by simp [Cg])
  have hW:wt (.sl A5) a0=a0.length + (a0.map (fun x:Bi=>wt A5 x)).sum:=rfl
  rw [hW]
  by_cases q:a1 - (a0.length:Int) < 0
  ·simp only [C2 q,cond_true]; rw [if_pos (by omega)]
  ·simp only [Na q,cond_false]
   have hL:=hL (by omega) (by omega)
   rw [List.drop_zero] at hL
   show (A8 (Cg a0 (a1 - (a0.length:Int)) 0) a0 (a1 - (a0.length:Int)) 0).bind _=_
   have hL':A8 (Cg a0 (a1 - (a0.length:Int)) 0) a0 (a1 - (a0.length:Int)) 0=_:=hL
   rw [hL']
   have hsum:a1 - ((a0.length + (a0.map (fun x:Bi=>wt A5 x)).sum:Nat):Int)=a1 - (a0.length:Int) - ((a0.map (fun x:Bi=>wt A5 x)).sum:Int):=by omega
   rw [hsum]
   by_cases q2:a1 - (a0.length:Int) - ((a0.map (fun x:Bi=>wt A5 x)).sum:Int) < 0
   ·simp only [if_pos q2]; rfl
   ·simp only [if_neg q2]; rfl
def J4 {R:Type} (k:Kt R):=(Fj (Xn (Cz 6) (.exit 0) 2 k) (Xn (Cz 6) .ret 1 k))
def N6 {R:Type}:Lt R Cz:=(Qj (pat:=Cz) 6 (fun d k=>(R5 d).bind (J4 k)) Tc)
theorem Mo:Bd Try.prog Mn:=Ea ⟨Yc,trivial⟩
theorem R6 {R:Type}:Db Try.prog R 27 0 Cz N6 J3:=
 Ix (cfg:=⟨Mn,0,27,Cz⟩) 6 [] (fun NX X d=>(Af (Af (Af A6))) (Dx  NX (fun e=>X (.inl (e))) (fun e=>X (.inr (e)))) d) (fun m d=>(Af (Af (Af A6))) (A8 m) d) (fun d=>(Af (Af (Af A6))) Cg d) J4 Mo trivial (fun f NX d=>by simp only [u4,Af,A6]; unfold Dx; simp only [nb])
theorem Ur:Fv Try.prog 13 Mm:=
 D5 (pat:=Cz) [J3] N6 Mo ⟨R6,trivial⟩ Try.func13 (de:=fun x=>Hn x.1 x.2.1) (fun x r h=>Dc (Uq x.1 x.2.1) h) fun _=>by kernel_rfl
def Fz (a:Ko) (left:Int):Option Int:=szM L7 a left
def Us:M5:=⟨[.rd L7,.rd tI],[some 1,none],[.rd tI],[none]⟩
def Mq:SD:=⟨Us,fun x=>(Fz x.1 x.2.1).bind fun r=>some ((r,()),(()))⟩
def Ho (a0:Ko) (a1:Int):Option ((((Int)×Unit)×(Unit))):=
 ((Ev a0.1 a1).bind fun val=>some ((val,()),())).bind fun val=>bif decide (val.1.1 < 0) then some ((-1,()),()) else some val
theorem Ut (a0:Ko) (a1:Int) r (h:Fz a0 a1=some r):Ho a0 a1=some ((r,()),(())):=by
 obtain ⟨hc,g0,g1,rfl⟩:=Xt (t:=L7) h
 obtain ⟨hc0,_⟩:Bq (.sl A5) a0.1=true∧True:=by
  have s:=hc
  obtain ⟨h0,s⟩:=B6 s
  exact ⟨h0,trivial⟩
 unfold Ho
 have hwt:(wt L7 a0:Int)=(wt (.sl A5) a0.1:Int):=by simp only [wt]; omega
 rw [hwt]
 have e0:Ev a0.1 (a1)=some (if a1 - (wt (.sl A5) a0.1:Int) < 0 then -1 else a1 - (wt (.sl A5) a0.1:Int)):=Aa6 (t:=(.sl A5)) (x:=a0.1) hc0 (by omega) (by omega)
 simp only [show Ev a0.1 (a1)=_ from e0,Option.bind_some]
 by_cases q0:a1 - (wt (.sl A5) a0.1:Int) < 0
 ·simp only [if_pos q0,show decide ((-1:Int) < 0)=true from rfl,cond_true]; try rw [if_pos (by omega)]
 ·simp only [if_neg q0,Na q0,cond_false]
  try rw [if_neg q0]
theorem Uu:Fv Try.prog 4 Mq:=
 D5 (pat:=Mk) [] Tc (Ea (l:=[(13,Mm)]) ⟨Ur,trivial⟩) trivial Try.func4 (de:=fun x=>Ho x.1 x.2.1) (fun x r h=>Dc (Ut x.1 x.2.1) h) fun _=>by kernel_rfl
def F0 (k:Aj):Bool:=Hu k
def Uv:M5:=⟨[.rd .str],[none],[.rd .bool],[none]⟩
def Mr:SD:=⟨Uv,fun x=>some (((F0 x.1),()),(()))⟩
def Hp (a0:Aj):Option ((((Bool)×Unit)×(Unit))):=
 bif decide (nI a0.size≥1) then some ((decide (nI a0.size≤20),()),()) else some ((false,()),())
theorem Uw (a0:Aj):Hp a0=some ((F0 a0,()),()):=by
 unfold Hp F0 Hu Z0
 by_cases h:(a0.size:Int)≥1
 ·have:decide ((1:Int)≤(a0.size:Int))=true:=by simpa using h
  simp [nI,this]
 ·have h':¬ (1:Int)≤(a0.size:Int):=h
  simp [nI,h']
theorem Ux:Fv Try.prog 23 Mr:=
 D5 (pat:=Mk) [] Tc (Ea (l:=[]) trivial) trivial Try.func23 (de:=fun x=>Hp x.1) (fun x r h=>(Uw x.1).trans h) fun _=>by kernel_rfl
def Eo (s:Ko):Bool:=Cf s
def Qn:M5:=⟨[.rd L7],[some 1],[.rd .bool],[none]⟩
def I3:SD:=⟨Qn,fun x=>some (((Eo x.1),()),(()))⟩
def I4:Tb:=tb [(23,Mr)]
def B7:Nat→D9×(Nat→D9):=Pb [(5,⟨[.boxSl 1 0 A5],[(1,.lf (.ptr 0 0)),(3,.lf (.d tI))],[.box 30 [.d (.sl A5)]]⟩,[(2,p0),(1,⟨[],[(2,.lf (.d .bool))],[]⟩)])]
def G9:Code:=(Bx (Ee Try.f14)).getD 0 .skip
def Br (v3:Int) (b0_0:List Bi):Nat:=((b0_0.length:Int) - v3).toNat + 1
def Cs {R:Type}  (NX:((Int)×(List Bi)×Unit)→Option R) (X2:(Unit)→Option R) (X1:((Bool)×Unit)→Option R) (v3:Int) (b0_0:List Bi):Option R:=
 bif decide (v3 < nI b0_0.length) then bif decide (0≤v3) then bif decide (v3 < nI b0_0.length) then bif !F0 (b0_0.getD v3.toNat (Ad,Ad,())).1 then X1 (false,()) else bif decide (0≤v3) then bif decide (v3 < nI b0_0.length) then bif decide (nI (ByteArray.size (b0_0.getD v3.toNat (Ad,Ad,())).2.1) > 100) then X1 (false,()) else bif decide (v3 > 0) then bif decide (0≤IntKind.i64.wrap (v3 - 1)) then bif decide (IntKind.i64.wrap (v3 - 1) < nI b0_0.length) then bif decide (0≤v3) then bif decide (v3 < nI b0_0.length) then bif !Op.bytesLess (ByteArray.toList (b0_0.getD (IntKind.i64.wrap (v3 - 1)).toNat (Ad,Ad,())).1) (ByteArray.toList (b0_0.getD v3.toNat (Ad,Ad,())).1) then X1 (false,()) else NX (IntKind.i64.wrap (v3 + 1),b0_0,()) else none else none else none else none else NX (IntKind.i64.wrap (v3 + 1),b0_0,()) else none else none else none else none else X2 PUnit.unit
def Av:Nat→(Int)→(List Bi) →  Option ((Unit) ⊕ ((Bool)×Unit))
 | 0,_,_=>none
 | m + 1,v3,b0_0=>Cs  (fun d=>Av m d.1 d.2.1) (fun d=>some (.inl (d))) (fun d=>some (.inr (d))) v3 b0_0
def N7 (d:(Int)×(List Bi)×Unit):Option ((Unit) ⊕ ((Bool)×Unit)):=(Af (Af A6)) (Av ((Af (Af A6)) Br d)) d
def Ff (a0:Ko):Option ((((Bool)×Unit)×(Unit))):=
 bif decide (nI (List.length a0.1) > 100) then some ((false,()),()) else ((fun d=>Av (Br d.1 d.2.1) d.1 d.2.1) (0,a0)).bind fun val=>Fj (fun d=>some ((true,()),())) (fun d=>some (d,())) val
theorem Qo (a0:Ko):Ff a0=some ((Eo a0,()),()):=by
 unfold Ff Eo Cf
 have c1:decide (nI a0.1.length > 100)=!decide (a0.1.length≤100):=Aci _ 100
 by_cases hl:a0.1.length≤100
 ·have hL:=Xs (n:=a0.1.length) (G8 a0.1) (g:=fun m i=>Av m i a0.1) (ok:=.inl ()) (bad:=.inr (false,())) (fun m i hi=>by
   show Av (m + 1) i a0.1=_
   simp only [Av,Cs]
   have g1:decide (nI (ByteArray.size (List.getD a0.1 i (Ad,Ad,())).2.1) > 100)=!decide (ByteArray.size (List.getD a0.1 i zP).2.1≤100):=Aci _ 100
   rw [V1 hi,K6,wI (show i < 4611686018427387904 by omega),Hl,gt0,g1]
   simp only [cond_true]
   unfold G8 bl
   show (bif !Hu (List.getD a0.1 i zP).1 then _ else _)=_
   cases i with
   | zero=>
    show (bif !Hu (List.getD a0.1 0 zP).1 then _ else bif !decide (ByteArray.size (List.getD a0.1 0 zP).2.1≤100) then _ else _)=_
    cases Hu (List.getD a0.1 0 zP).1<;>cases decide (ByteArray.size (List.getD a0.1 0 zP).2.1≤100)<;>rfl
   | succ j=>
    rw [wP j (by omega),K6,V1 (show j < a0.1.length by omega)]
    show (bif !Hu (List.getD a0.1 (j + 1) zP).1 then _ else bif !decide (ByteArray.size (List.getD a0.1 (j + 1) zP).2.1≤100) then _ else bif !Op.bytesLess (ByteArray.toList (List.getD a0.1 j zP).1) (ByteArray.toList (List.getD a0.1 (j + 1) zP).1) then _ else _)=_
    rw [Nat.add_sub_cancel]
    cases Hu (List.getD a0.1 (j + 1) zP).1<;>cases decide (ByteArray.size (List.getD a0.1 (j + 1) zP).2.1≤100)<;>cases Op.bytesLess (ByteArray.toList (List.getD a0.1 j zP).1) (ByteArray.toList (List.getD a0.1 (j + 1) zP).1)<;>rfl) (fun m=>by
   show Av (m + 1) (a0.1.length:Int) a0.1=_
   simp only [Av,Cs]
   rw [R1]
   rfl) (Br 0 a0.1) 0 (by omega) (by simp [Br,nI])
  have hL':Av (Br 0 a0.1) 0 a0.1=_:=hL
  rw [c1,C2 hl]
  show (Av (Br 0 a0.1) 0 a0.1).bind _=_
  rw [hL']
  cases (List.range' 0 (a0.1.length - 0)).all (G8 a0.1)<;>rfl
 ·rw [c1,Na hl]
  rfl
def Ha {R:Type} (k:Kt R):=(Fj (Xn (B7 5) (.exit 0) 2 k) (Xn (B7 5) .ret 1 k))
def J5 {R:Type}:Lt R B7:=(Qj (pat:=B7) 5 (fun d k=>(N7 d).bind (Ha k)) Tc)
theorem I5:Bd Try.prog I4:=Ea ⟨Ux,trivial⟩
theorem N8 {R:Type}:Db Try.prog R 53 0 B7 J5 G9:=
 Ix (cfg:=⟨I4,0,53,B7⟩) 5 [] (fun NX X d=>(Af (Af A6)) (Cs  NX (fun e=>X (.inl (e))) (fun e=>X (.inr (e)))) d) (fun m d=>(Af (Af A6)) (Av m) d) (fun d=>(Af (Af A6)) Br d) Ha I5 trivial (fun f NX d=>by simp only [u4,Af,A6]; unfold Cs; simp only [nb])
theorem Qp:Fv Try.prog 14 I3:=
 D5 (pat:=B7) [G9] J5 I5 ⟨N8,trivial⟩ Try.func14 (de:=fun x=>Ff x.1) (fun x r h=>(Qo x.1).trans h) fun _=>by kernel_rfl
def C0 (s:Ko):List (List Aq):=Hv s
def Ti:M5:=⟨[.rd L7],[some 1],[.rd (.sl (.sl Ay))],[none]⟩
def K9:SD:=⟨Ti,fun x=>some (((C0 x.1),()),(()))⟩
def La:Tb:=tb [(14,I3)]
def Dg:Nat→D9×(Nat→D9):=Pb [(6,⟨[.last 3 43 Ay,.boxSl 1 0 A5],[(1,.lf (.ptr 0 0)),(3,.lf (.row 1)),(4,.lf (.d tI))],[.box 30 [.d (.sl A5)],.last ⟨39,43,false⟩ Ay 2,.row 43 Ay]⟩,[(2,⟨[.last 3 43 Ay],[(3,.lf (.row 0))],[.last ⟨39,43,false⟩ Ay 1,.row 43 Ay]⟩)])]
def I6:Code:=(Bx (Ee Try.f5)).getD 0 .skip
def B8 (v4:Int) (b0_0:List Bi) (r1:List (List Aq)) (c1:Bool) (r2:List Aq):Nat:=((b0_0.length:Int) - v4).toNat + 1
def Dl {R:Type}  (NX:((Int)×(List Bi)×(List (List Aq))×(Bool)×(List Aq)×Unit)→Option R) (X2:((List (List Aq))×(Bool)×(List Aq)×Unit)→Option R) (v4:Int) (b0_0:List Bi) (r1:List (List Aq)) (c1:Bool) (r2:List Aq):Option R:=
 bif decide (v4 < nI b0_0.length) then bif v4.tmod 20==0 then bif decide ((r1.length + c1.toNat + 1) * 24≤140737488355328) then bif decide (0≤IntKind.i64.wrap (nI ((bif c1 then r1++[r2] else r1).length + true.toNat) - 1)) then bif decide (IntKind.i64.wrap (nI ((bif c1 then r1++[r2] else r1).length + true.toNat) - 1) < nI ((bif c1 then r1++[r2] else r1).length + true.toNat)) then bif decide ((IntKind.i64.wrap (nI ((bif c1 then r1++[r2] else r1).length + true.toNat) - 1)).toNat=(bif c1 then r1++[r2] else r1).length) then bif decide (0≤v4) then bif decide (v4 < nI b0_0.length) then bif decide (0≤v4) then bif decide (v4 < nI b0_0.length) then bif decide (0≤IntKind.i64.wrap (nI ((bif c1 then r1++[r2] else r1).length + true.toNat) - 1)) then bif decide (IntKind.i64.wrap (nI ((bif c1 then r1++[r2] else r1).length + true.toNat) - 1) < nI ((bif c1 then r1++[r2] else r1).length + true.toNat)) then bif decide ((IntKind.i64.wrap (nI ((bif c1 then r1++[r2] else r1).length + true.toNat) - 1)).toNat=(bif c1 then r1++[r2] else r1).length) then NX (IntKind.i64.wrap (v4 + 1),b0_0,bif c1 then r1++[r2] else r1,true,[]++[((b0_0.getD v4.toNat (Ad,Ad,())).1,(b0_0.getD v4.toNat (Ad,Ad,())).2.1,false,())],()) else none else none else none else none else none else none else none else none else none else none else none else bif decide (0≤IntKind.i64.wrap (nI (r1.length + c1.toNat) - 1)) then bif decide (IntKind.i64.wrap (nI (r1.length + c1.toNat) - 1) < nI (r1.length + c1.toNat)) then bif c1 then bif decide ((IntKind.i64.wrap (nI (r1.length + c1.toNat) - 1)).toNat=r1.length) then bif decide (0≤v4) then bif decide (v4 < nI b0_0.length) then bif decide (0≤v4) then bif decide (v4 < nI b0_0.length) then bif decide ((r2.length + [((b0_0.getD v4.toNat (Ad,Ad,())).1,(b0_0.getD v4.toNat (Ad,Ad,())).2.1,false,())].length) * 40≤140737488355328) then bif decide (0≤IntKind.i64.wrap (nI (r1.length + c1.toNat) - 1)) then bif decide (IntKind.i64.wrap (nI (r1.length + c1.toNat) - 1) < nI (r1.length + c1.toNat)) then bif c1 then bif decide ((IntKind.i64.wrap (nI (r1.length + c1.toNat) - 1)).toNat=r1.length) then NX (IntKind.i64.wrap (v4 + 1),b0_0,r1,c1,r2++[((b0_0.getD v4.toNat (Ad,Ad,())).1,(b0_0.getD v4.toNat (Ad,Ad,())).2.1,false,())],()) else none else none else none else none else none else none else none else none else none else none else none else none else none else X2 (r1,c1,r2,())
def A3:Nat→(Int)→(List Bi)→(List (List Aq))→(Bool)→(List Aq) →  Option ((List (List Aq))×(Bool)×(List Aq)×Unit)
 | 0,_,_,_,_,_=>none
 | m + 1,v4,b0_0,r1,c1,r2=>Dl  (fun d=>A3 m d.1 d.2.1 d.2.2.1 d.2.2.2.1 d.2.2.2.2.1) (fun d=>some (d)) v4 b0_0 r1 c1 r2
def Qq (d:(Int)×(List Bi)×(List (List Aq))×(Bool)×(List Aq)×Unit):Option ((List (List Aq))×(Bool)×(List Aq)×Unit):=(u4 (Af A6)) (A3 ((u4 (Af A6)) B8 d)) d
def Gv (a0:Ko):Option ((((List (List Aq))×Unit)×(Unit))):=
 bif !Eo a0 then some (([],()),()) else ((fun d=>A3 (B8 d.1 d.2.1 d.2.2.1 d.2.2.2.1 d.2.2.2.2.1) d.1 d.2.1 d.2.2.1 d.2.2.2.1 d.2.2.2.2.1) (0,a0.1,[],false,[],())).bind fun val=>some ((bif val.2.1 then val.1++[val.2.2.1] else val.1,()),())
theorem Tj (a0:Ko):Gv a0=some (((C0 a0),()),(())):=by
 unfold Gv C0 Hv
 show (bif !Cf a0 then _ else _)=_
 cases hv:Cf a0 with
 | false=>rfl
 | true=>
  have hl:=Fy hv
  have hL:=Qm (xs:=a0.1) zP Z7 Dw (g:=fun m i s=>A3 m i a0.1 s.1 s.2.1 s.2.2) (ok:=fun s=>(s.1,s.2.1,s.2.2,())) (fun m i s hi hI=>by
   show A3 (m + 1) i a0.1 s.1 s.2.1 s.2.2=_
   obtain ⟨r0,c0,r1⟩:=s
   obtain ⟨h1,h2,h3,h4⟩:=hI
   simp only at h2 h3 h4 ⊢
   simp only [A3,Dl]
   rw [V1 hi,K6,wI (show i < 4611686018427387904 by omega),Hl,Afz]
   unfold Dw
   cases hc:(i % 20==0)
   ·have hp:0 < i:=Nat.pos_of_ne_zero fun q=>by subst q; cases hc
    have hc0:=h3 hp
    subst hc0
    have e1:=l5 r0.length (by omega)
    have e2:decide ((r0.length:Int) < nI (r0.length + 1))=true:=V1 (Nat.lt_succ_self _)
    have e3:decide ((r1.length + 1) * 40≤140737488355328)=true:=C2 (by omega)
    simp only [Bool.toNat_true,Acp,cond_true,cond_false,e1,e2,e3,K6,Hl,decide_true]
    rfl
   ·have hL:List.length (bif c0 then r0++[r1] else r0)≤i + 1:=by cases c0<;>simp<;>omega
    have e1:=l5 (List.length (bif c0 then r0++[r1] else r0)) (by omega)
    have e2:decide (((List.length (bif c0 then r0++[r1] else r0):Nat):Int) < nI (List.length (bif c0 then r0++[r1] else r0) + 1))=true:=V1 (Nat.lt_succ_self _)
    have e3:decide ((r0.length + Bool.toNat c0 + 1) * 24≤140737488355328)=true:=C2 (by cases c0<;>simp<;>omega)
    simp only [Bool.toNat_true,cond_true,e1,e2,e3,K6,Hl,decide_true]
    rfl) (fun i s hi hI=>hI.step (by omega) _) (fun m s hI=>by
   show A3 (m + 1) (a0.1.length:Int) a0.1 s.1 s.2.1 s.2.2=_
   simp only [A3,Dl]
   rw [R1]
   rfl) (B8 0 a0.1 [] false []) 0 ([],false,[]) (by omega) (by simp [B8,nI]) ⟨by omega,by simp,fun q=>by omega,by simp⟩
  have hL':A3 (B8 0 a0.1 [] false []) 0 a0.1 [] false []=_:=hL
  show (A3 (B8 0 a0.1 [] false []) 0 a0.1 [] false []).bind _=_
  rw [hL']
  rfl
def I7 {R:Type} (k:Kt R):=(Xn (Dg 6) (.exit 0) 2 k)
def Ms {R:Type}:Lt R Dg:=(Qj (pat:=Dg) 6 (fun d k=>(Qq d).bind (I7 k)) Tc)
theorem Lb:Bd Try.prog La:=Ea ⟨Qp,trivial⟩
theorem Qr {R:Type}:Db Try.prog R 51 0 Dg Ms I6:=
 Ix (cfg:=⟨La,0,51,Dg⟩) 6 [] (fun NX X (d:(Int)×(List Bi)×(List (List Aq))×(Bool)×(List Aq)×Unit)=>(u4 (Af A6)) (Dl  NX X) d) (fun m d=>(u4 (Af A6)) (A3 m) d) (fun d=>(u4 (Af A6)) B8 d) I7 Lb trivial (fun f NX (d:(Int)×(List Bi)×(List (List Aq))×(Bool)×(List Aq)×Unit)=>by simp only [u4,Af,A6]; unfold Dl; simp only [nb])
theorem Tk:Fv Try.prog 5 K9:=
 D5 (pat:=Dg) [I6] Ms Lb ⟨Qr,trivial⟩ Try.func5 (de:=fun x=>Gv x.1) (fun x r h=>(Tj x.1).trans h) fun _=>by kernel_rfl
def Pz (a:Bi):Option Bi:=toM A5 a
def Yd:M5:=⟨[.rd A5],[some 2],[.rd A5],[some 2]⟩
def N9:SD:=⟨Yd,fun x=>(Pz x.1).bind fun r=>some ((r,()),(()))⟩
def Oa (a0:Bi):Option (((Bi×Unit)×(Unit))):=
 some ((a0,()),())
theorem Ye (a0:Bi) r (h:Pz a0=some r):Oa a0=some ((r,()),(())):=by
 obtain ⟨hc,rfl⟩:=Xu (t:=A5) h
 ·rfl
theorem Yf:Fv Try.prog 24 N9:=
 D5 (pat:=Mk) [] Tc (Ea (l:=[]) trivial) trivial Try.func24 (de:=fun x=>Oa x.1) (fun x r h=>Dc (Ye x.1) h) fun _=>by kernel_rfl
def F1 (a:List Bi):Option (List Bi):=toM (.sl A5) a
def Uy:M5:=⟨[.rd (.sl A5)],[none],[.own 41 A5],[none]⟩
def Mt:SD:=⟨Uy,fun x=>(F1 x.1).bind fun r=>some ((r,()),(()))⟩
def Mu:Tb:=tb [(24,N9)]
def Dt:Nat→D9×(Nat→D9):=Pb [(4,⟨[.sl 0 0 A5,.row 3 0 41 A5],[(0,.lf (.d (.sl A5))),(3,.lf (.row 0)),(4,.lf (.d tI))],[.row 41 A5]⟩,[(2,⟨[.row 3 0 41 A5],[(3,.lf (.row 0))],[.row 41 A5]⟩)])]
def J6:Code:=(Bx (Ee Try.f15)).getD 0 .skip
def Ch (v0:List Bi) (v4:Int) (r0:List Bi):Nat:=((v0.length:Int) - v4).toNat + 1
def Dy {R:Type}  (NX:((List Bi)×(Int)×(List Bi)×Unit)→Option R) (X2:Ko→Option R) (v0:List Bi) (v4:Int) (r0:List Bi):Option R:=
 bif decide (v4 < nI v0.length) then bif decide (0≤v4) then bif decide (v4 < nI v0.length) then bif decide (0≤v4) then bif decide (v4 < nI r0.length) then bif decide (v4.toNat < r0.length) then NX (v0,IntKind.i64.wrap (v4 + 1),r0.set v4.toNat (v0.getD v4.toNat (Ad,Ad,())),()) else none else none else none else none else none else X2 (r0,())
def A9:Nat→(List Bi)→(Int)→(List Bi) →  Option Ko
 | 0,_,_,_=>none
 | m + 1,v0,v4,r0=>Dy  (fun d=>A9 m d.1 d.2.1 d.2.2.1) (fun d=>some (d)) v0 v4 r0
def R7 (d:(List Bi)×(Int)×(List Bi)×Unit):Option Ko:=(Af (Af (Af A6))) (A9 ((Af (Af (Af A6))) Ch d)) d
def Hq (a0:List Bi):Option ((Ko×(Unit))):=
 bif decide (nI a0.length=nI a0.length) then bif decide ((nI a0.length).toNat * 32≤140737488355328) then ((fun d=>A9 (Ch d.1 d.2.1 d.2.2.1) d.1 d.2.1 d.2.2.1) (a0,0,List.replicate (nI a0.length).toNat (Ad,Ad,()),())).bind fun val=>some (val,()) else none else none
theorem Uz (a0:List Bi) r (h:F1 a0=some r):Hq a0=some ((r,()),(())):=by
 obtain ⟨hc,rfl⟩:=Xu (t:=.sl A5) h
 obtain ⟨hl0,hall⟩:=Adk hc
 have hl:a0.length≤1048576:=hl0
 clear hl0 hc h
 ·unfold Hq
  have e:Int.toNat (nI a0.length)=a0.length:=by simp [nI]
  have hL:=Ach (xs:=a0) ((Ad),(Ad),()) (g:=fun m i r=>A9 m a0 i r) (ok:=fun r=>(r,())) (fun m i r hi hr=>by
   show A9 (m + 1) a0 i r=_
   simp only [A9,Dy]
   have hir:i < r.length:=by omega
   rw [V1 hi,K6,V1 hir,wI (by omega)]
   simp only [cond_true,Hl]
   rw [Ag2 hir]
   rfl) (fun m r=>by
   show A9 (m + 1) a0 a0.length r=_
   simp only [A9,Dy]
   rw [R1]
   rfl) (Ch a0 0 (List.replicate a0.length ((Ad),(Ad),()))) 0 (List.replicate a0.length ((Ad),(Ad),())) (by omega) (by simp [Ch]) (by simp)
  have c1:decide (Int.toNat (nI a0.length) * 32≤140737488355328)=true:=by rw [e]; simp; omega
  rw [c1,C2 rfl,e]
  have hL':A9 (Ch a0 0 (List.replicate a0.length ((Ad),(Ad),()))) a0 0 (List.replicate a0.length ((Ad),(Ad),()))=_:=hL
  show (A9 (Ch a0 0 (List.replicate a0.length ((Ad),(Ad),()))) a0 0 (List.replicate a0.length ((Ad),(Ad),()))).bind _=_
  rw [hL']
  rfl
def J7 {R:Type} (k:Kt R):=(Xn (Dt 4) (.exit 0) 2 k)
def Ob {R:Type}:Lt R Dt:=(Qj (pat:=Dt) 4 (fun d k=>(R7 d).bind (J7 k)) Tc)
theorem Mv:Bd Try.prog Mu:=Ea ⟨Yf,trivial⟩
theorem R8 {R:Type}:Db Try.prog R 23 0 Dt Ob J6:=
 Ix (cfg:=⟨Mu,0,23,Dt⟩) 4 [] (fun NX X d=>(Af (Af (Af A6))) (Dy  NX X) d) (fun m d=>(Af (Af (Af A6))) (A9 m) d) (fun d=>(Af (Af (Af A6))) Ch d) J7 Mv trivial (fun f NX d=>by simp only [u4,Af,A6]; unfold Dy; simp only [nb])
theorem U0:Fv Try.prog 15 Mt:=
 D5 (pat:=Dt) [J6] Ob Mv ⟨R8,trivial⟩ Try.func15 (de:=fun x=>Hq x.1) (fun x r h=>Dc (Uz x.1) h) fun _=>by kernel_rfl
def Dm (a:Ko):Option Ko:=toM L7 a
def U1:M5:=⟨[.rd L7],[some 1],[.own 41 A5],[some 1]⟩
def Mw:SD:=⟨U1,fun x=>(Dm x.1).bind fun r=>some ((r.1,()),(()))⟩
def Hr (a0:Ko):Option ((Ko×(Unit))):=
 ((F1 a0.1).bind fun val=>some ((val,()),())).bind fun val=>some val
theorem U2 (a0:Ko) r (h:Dm a0=some r):Hr a0=some ((r.1,()),(())):=by
 obtain ⟨hc,rfl⟩:=Xu (t:=L7) h
 ·obtain ⟨s0,_⟩:Ek (.sl A5) a0.1=true∧True:=by
   have s:=hc
   obtain ⟨h0,s⟩:=w7 s
   exact ⟨h0,trivial⟩
  unfold Hr
  have e0:F1 a0.1=some a0.1:=Afr (t:=(.sl A5)) s0
  simp only [e0]
  rfl
theorem U3:Fv Try.prog 6 Mw:=
 D5 (pat:=Mk) [] Tc (Ea (l:=[(15,Mt)]) ⟨U0,trivial⟩) trivial Try.func6 (de:=fun x=>Hr x.1) (fun x r h=>Dc (U2 x.1) h) fun _=>by kernel_rfl
def O8 (v lo hi:Int):Bool:=Z0 v lo hi
def Abe:M5:=⟨[.rd tI,.rd tI,.rd tI],[none,none,none],[.rd .bool],[none]⟩
def Yg:SD:=⟨Abe,fun x=>some (((O8 x.1 x.2.1 x.2.2.1),()),(()))⟩
def Qs (a0 a1 a2:Int):Option ((((Bool)×Unit)×(Unit))):=
 bif decide (a0≥a1) then some ((decide (a0≤a2),()),()) else some ((false,()),())
theorem Abf (a0 a1 a2:Int):Qs a0 a1 a2=some ((O8 a0 a1 a2,()),()):=by
 unfold Qs O8 Z0
 by_cases h:a0≥a1
 ·have:decide (a1≤a0)=true:=by simpa using h
  simp [h,this]
 ·have:decide (a1≤a0)=false:=by simpa using h
  simp [h,this]
theorem Abg:Fv Try.prog 29 Yg:=
 D5 (pat:=Mk) [] Tc (Ea (l:=[]) trivial) trivial Try.func29 (de:=fun x=>Qs x.1 x.2.1 x.2.2.1) (fun x r h=>(Abf x.1 x.2.1 x.2.2.1).trans h) fun _=>by kernel_rfl
def I8 (k:Aj):Bool:=Hu k
def U4:M5:=⟨[.rd .str],[none],[.rd .bool],[none]⟩
def Mx:SD:=⟨U4,fun x=>some (((I8 x.1),()),(()))⟩
def My (a0:Aj):Option ((((Bool)×Unit)×(Unit))):=
 some ((O8 (nI a0.size) 1 20,()),())
theorem U5 (a0:Aj):My a0=some ((I8 a0,()),()):=rfl
theorem U6:Fv Try.prog 25 Mx:=
 D5 (pat:=Mk) [] Tc (Ea (l:=[(29,Yg)]) ⟨Abg,trivial⟩) trivial Try.func25 (de:=fun x=>My x.1) (fun x r h=>(U5 x.1).trans h) fun _=>by kernel_rfl
def Ep (s:Ko):Bool:=Cf s
def Qt:M5:=⟨[.rd L7],[some 1],[.rd .bool],[none]⟩
def I9:SD:=⟨Qt,fun x=>some (((Ep x.1),()),(()))⟩
def Ja:Tb:=tb [(25,Mx)]
def B9:Nat→D9×(Nat→D9):=Pb [(5,⟨[.sl 10 0 A5,.boxSl 1 0 A5],[(1,.lf (.ptr 0 0)),(10,.lf (.d (.sl A5))),(11,.lf (.d tI)),(12,.lf (.d tI))],[.box 30 [.d (.sl A5)]]⟩,[(2,p0),(1,⟨[],[(2,.lf (.d .bool))],[]⟩)])]
def Hb:Code:=(Bx (Ee Try.f16)).getD 0 .skip
def Bs (v10:List Bi) (v11 v12:Int) (b0_0:List Bi):Nat:=(v11 - v12).toNat + 1
def Ct {R:Type}  (NX:((List Bi)×(Int)×(Int)×(List Bi)×Unit)→Option R) (X2:(Unit)→Option R) (X1:((Bool)×Unit)→Option R) (v10:List Bi) (v11:Int) (v12:Int) (b0_0:List Bi):Option R:=
 bif decide (v12 < v11) then bif decide (0≤v12) then bif decide (v12 < nI v10.length) then bif !I8 (v10.getD v12.toNat (Ad,Ad,())).1 then X1 (false,()) else bif decide (nI (ByteArray.size (v10.getD v12.toNat (Ad,Ad,())).2.1) > 100) then X1 (false,()) else bif decide (v12 > 0) then bif decide (0≤IntKind.i64.wrap (v12 - 1)) then bif decide (IntKind.i64.wrap (v12 - 1) < nI b0_0.length) then bif !Op.bytesLess (ByteArray.toList (b0_0.getD (IntKind.i64.wrap (v12 - 1)).toNat (Ad,Ad,())).1) (ByteArray.toList (v10.getD v12.toNat (Ad,Ad,())).1) then X1 (false,()) else NX (v10,v11,IntKind.i64.wrap (v12 + 1),b0_0,()) else none else none else NX (v10,v11,IntKind.i64.wrap (v12 + 1),b0_0,()) else none else none else X2 PUnit.unit
def Aw:Nat→(List Bi)→(Int)→(Int)→(List Bi) →  Option ((Unit) ⊕ ((Bool)×Unit))
 | 0,_,_,_,_=>none
 | m + 1,v10,v11,v12,b0_0=>Ct  (fun d=>Aw m d.1 d.2.1 d.2.2.1 d.2.2.2.1) (fun d=>some (.inl (d))) (fun d=>some (.inr (d))) v10 v11 v12 b0_0
def Oc (d:(List Bi)×(Int)×(Int)×(List Bi)×Unit):Option ((Unit) ⊕ ((Bool)×Unit)):=(u4 A6) (Aw ((u4 A6) Bs d)) d
def Fg (a0:Ko):Option ((((Bool)×Unit)×(Unit))):=
 bif decide (nI (List.length a0.1) > 100) then some ((false,()),()) else ((fun d=>Aw (Bs d.1 d.2.1 d.2.2.1 d.2.2.2.1) d.1 d.2.1 d.2.2.1 d.2.2.2.1) (a0.1,nI (List.length a0.1),0,a0)).bind fun val=>Fj (fun d=>some ((true,()),())) (fun d=>some (d,())) val
theorem Qu (a0:Ko):Fg a0=some ((Ep a0,()),()):=by
 unfold Fg Ep Cf
 have c1:decide (nI a0.1.length > 100)=!decide (a0.1.length≤100):=Aci _ 100
 by_cases hl:a0.1.length≤100
 ·have hL:=Xs (n:=a0.1.length) (G8 a0.1) (g:=fun m i=>Aw m a0.1 (nI a0.1.length) i a0.1) (ok:=.inl ()) (bad:=.inr (false,())) (fun m i hi=>by
   show Aw (m + 1) a0.1 (nI a0.1.length) i a0.1=_
   simp only [Aw,Ct]
   have g1:decide (nI (ByteArray.size (List.getD a0.1 i (Ad,Ad,())).2.1) > 100)=!decide (ByteArray.size (List.getD a0.1 i zP).2.1≤100):=Aci _ 100
   rw [V1 hi,K6,wI (show i < 4611686018427387904 by omega),Hl,gt0,g1]
   simp only [cond_true]
   unfold G8 bl
   show (bif !Hu (List.getD a0.1 i zP).1 then _ else _)=_
   cases i with
   | zero=>
    show (bif !Hu (List.getD a0.1 0 zP).1 then _ else bif !decide (ByteArray.size (List.getD a0.1 0 zP).2.1≤100) then _ else _)=_
    cases Hu (List.getD a0.1 0 zP).1<;>cases decide (ByteArray.size (List.getD a0.1 0 zP).2.1≤100)<;>rfl
   | succ j=>
    rw [wP j (by omega),K6,V1 (show j < a0.1.length by omega)]
    show (bif !Hu (List.getD a0.1 (j + 1) zP).1 then _ else bif !decide (ByteArray.size (List.getD a0.1 (j + 1) zP).2.1≤100) then _ else bif !Op.bytesLess (ByteArray.toList (List.getD a0.1 j zP).1) (ByteArray.toList (List.getD a0.1 (j + 1) zP).1) then _ else _)=_
    rw [Nat.add_sub_cancel]
    cases Hu (List.getD a0.1 (j + 1) zP).1<;>cases decide (ByteArray.size (List.getD a0.1 (j + 1) zP).2.1≤100)<;>cases Op.bytesLess (ByteArray.toList (List.getD a0.1 j zP).1) (ByteArray.toList (List.getD a0.1 (j + 1) zP).1)<;>rfl) (fun m=>by
   show Aw (m + 1) a0.1 (nI a0.1.length) (a0.1.length:Int) a0.1=_
   simp only [Aw,Ct]
   rw [R1]
   rfl) (Bs a0.1 (nI a0.1.length) 0 a0.1) 0 (by omega) (by simp [Bs,nI])
  have hL':Aw (Bs a0.1 (nI a0.1.length) 0 a0.1) a0.1 (nI a0.1.length) 0 a0.1=_:=hL
  rw [c1,C2 hl]
  show (Aw (Bs a0.1 (nI a0.1.length) 0 a0.1) a0.1 (nI a0.1.length) 0 a0.1).bind _=_
  rw [hL']
  cases (List.range' 0 (a0.1.length - 0)).all (G8 a0.1)<;>rfl
 ·rw [c1,Na hl]
  rfl
def Hc {R:Type} (k:Kt R):=(Fj (Xn (B9 5) (.exit 0) 2 k) (Xn (B9 5) .ret 1 k))
def J8 {R:Type}:Lt R B9:=(Qj (pat:=B9) 5 (fun d k=>(Oc d).bind (Hc k)) Tc)
theorem Jb:Bd Try.prog Ja:=Ea ⟨U6,trivial⟩
theorem Od {R:Type}:Db Try.prog R 44 0 B9 J8 Hb:=
 Ix (cfg:=⟨Ja,0,44,B9⟩) 5 [] (fun NX X d=>(u4 A6) (Ct  NX (fun e=>X (.inl (e))) (fun e=>X (.inr (e)))) d) (fun m d=>(u4 A6) (Aw m) d) (fun d=>(u4 A6) Bs d) Hc Jb trivial (fun f NX d=>by simp only [u4,Af,A6]; unfold Ct; simp only [nb])
theorem Qv:Fv Try.prog 16 I9:=
 D5 (pat:=B9) [Hb] J8 Jb ⟨Od,trivial⟩ Try.func16 (de:=fun x=>Fg x.1) (fun x r h=>(Qu x.1).trans h) fun _=>by kernel_rfl
def Be (s:Ko):List (List Aq):=Hv s
def Tl:M5:=⟨[.rd L7],[some 1],[.nst ⟨39,43,false⟩ Ay],[none]⟩
def Lc:SD:=⟨Tl,fun x=>some (((Be x.1),()),(()))⟩
def Ld:Tb:=tb [(16,I9)]
def Dh:Nat→D9×(Nat→D9):=Pb [(6,⟨[.last 3 43 Ay,.sl 10 0 A5],[(3,.lf (.row 0)),(10,.lf (.d (.sl A5))),(11,.lf (.d tI)),(12,.lf (.d tI))],[.last ⟨39,43,false⟩ Ay 1,.row 43 Ay]⟩,[(2,⟨[.last 3 43 Ay],[(3,.lf (.row 0))],[.last ⟨39,43,false⟩ Ay 1,.row 43 Ay]⟩)])]
def Jc:Code:=(Bx (Ee Try.f7)).getD 0 .skip
def Ca (v10:List Bi) (v11 v12:Int) (r0:List (List Aq)) (c0:Bool) (r1:List Aq):Nat:=(v11 - v12).toNat + 1
def Dn {R:Type}  (NX:((List Bi)×(Int)×(Int)×(List (List Aq))×(Bool)×(List Aq)×Unit)→Option R) (X2:((List (List Aq))×(Bool)×(List Aq)×Unit)→Option R) (v10:List Bi) (v11:Int) (v12:Int) (r0:List (List Aq)) (c0:Bool) (r1:List Aq):Option R:=
 bif decide (v12 < v11) then bif decide (0≤v12) then bif decide (v12 < nI v10.length) then bif v12.tmod 20==0 then bif decide ((r0.length + c0.toNat + 1) * 24≤140737488355328) then bif decide (0≤IntKind.i64.wrap (nI ((bif c0 then r0++[r1] else r0).length + true.toNat) - 1)) then bif decide (IntKind.i64.wrap (nI ((bif c0 then r0++[r1] else r0).length + true.toNat) - 1) < nI ((bif c0 then r0++[r1] else r0).length + true.toNat)) then bif decide ((IntKind.i64.wrap (nI ((bif c0 then r0++[r1] else r0).length + true.toNat) - 1)).toNat=(bif c0 then r0++[r1] else r0).length) then bif decide (0≤IntKind.i64.wrap (nI ((bif c0 then r0++[r1] else r0).length + true.toNat) - 1)) then bif decide (IntKind.i64.wrap (nI ((bif c0 then r0++[r1] else r0).length + true.toNat) - 1) < nI ((bif c0 then r0++[r1] else r0).length + true.toNat)) then bif decide ((IntKind.i64.wrap (nI ((bif c0 then r0++[r1] else r0).length + true.toNat) - 1)).toNat=(bif c0 then r0++[r1] else r0).length) then NX (v10,v11,IntKind.i64.wrap (v12 + 1),bif c0 then r0++[r1] else r0,true,[]++[((v10.getD v12.toNat (Ad,Ad,())).1,(v10.getD v12.toNat (Ad,Ad,())).2.1,false,())],()) else none else none else none else none else none else none else none else bif decide (0≤IntKind.i64.wrap (nI (r0.length + c0.toNat) - 1)) then bif decide (IntKind.i64.wrap (nI (r0.length + c0.toNat) - 1) < nI (r0.length + c0.toNat)) then bif c0 then bif decide ((IntKind.i64.wrap (nI (r0.length + c0.toNat) - 1)).toNat=r0.length) then bif decide ((r1.length + [((v10.getD v12.toNat (Ad,Ad,())).1,(v10.getD v12.toNat (Ad,Ad,())).2.1,false,())].length) * 40≤140737488355328) then bif decide (0≤IntKind.i64.wrap (nI (r0.length + c0.toNat) - 1)) then bif decide (IntKind.i64.wrap (nI (r0.length + c0.toNat) - 1) < nI (r0.length + c0.toNat)) then bif c0 then bif decide ((IntKind.i64.wrap (nI (r0.length + c0.toNat) - 1)).toNat=r0.length) then NX (v10,v11,IntKind.i64.wrap (v12 + 1),r0,c0,r1++[((v10.getD v12.toNat (Ad,Ad,())).1,(v10.getD v12.toNat (Ad,Ad,())).2.1,false,())],()) else none else none else none else none else none else none else none else none else none else none else none else X2 (r0,c0,r1,())
def A4:Nat→(List Bi)→(Int)→(Int)→(List (List Aq))→(Bool)→(List Aq) →  Option ((List (List Aq))×(Bool)×(List Aq)×Unit)
 | 0,_,_,_,_,_,_=>none
 | m + 1,v10,v11,v12,r0,c0,r1=>Dn  (fun d=>A4 m d.1 d.2.1 d.2.2.1 d.2.2.2.1 d.2.2.2.2.1 d.2.2.2.2.2.1) (fun d=>some (d)) v10 v11 v12 r0 c0 r1
def Qw (d:(List Bi)×(Int)×(Int)×(List (List Aq))×(Bool)×(List Aq)×Unit):Option ((List (List Aq))×(Bool)×(List Aq)×Unit):=(u4 (Af (Af A6))) (A4 ((u4 (Af (Af A6))) Ca d)) d
def Gw (a0:Ko):Option ((((List (List Aq))×Unit)×(Unit))):=
 bif !Ep a0 then some (([],()),()) else ((fun d=>A4 (Ca d.1 d.2.1 d.2.2.1 d.2.2.2.1 d.2.2.2.2.1 d.2.2.2.2.2.1) d.1 d.2.1 d.2.2.1 d.2.2.2.1 d.2.2.2.2.1 d.2.2.2.2.2.1) (a0.1,nI (List.length a0.1),0,[],false,[],())).bind fun val=>some ((bif val.2.1 then val.1++[val.2.2.1] else val.1,()),())
theorem Tm (a0:Ko):Gw a0=some (((Be a0),()),(())):=by
 unfold Gw Be Hv
 show (bif !Cf a0 then _ else _)=_
 cases hv:Cf a0 with
 | false=>rfl
 | true=>
  have hl:=Fy hv
  have hL:=Qm (xs:=a0.1) zP Z7 Dw (g:=fun m i s=>A4 m a0.1 (nI a0.1.length) i s.1 s.2.1 s.2.2) (ok:=fun s=>(s.1,s.2.1,s.2.2,())) (fun m i s hi hI=>by
   show A4 (m + 1) a0.1 (nI a0.1.length) i s.1 s.2.1 s.2.2=_
   obtain ⟨r0,c0,r1⟩:=s
   obtain ⟨h1,h2,h3,h4⟩:=hI
   simp only at h2 h3 h4 ⊢
   simp only [A4,Dn]
   rw [V1 hi,K6,wI (show i < 4611686018427387904 by omega),Hl,Afz]
   unfold Dw
   cases hc:(i % 20==0)
   ·have hp:0 < i:=Nat.pos_of_ne_zero fun q=>by subst q; cases hc
    have hc0:=h3 hp
    subst hc0
    have e1:=l5 r0.length (by omega)
    have e2:decide ((r0.length:Int) < nI (r0.length + 1))=true:=V1 (Nat.lt_succ_self _)
    have e3:decide ((r1.length + 1) * 40≤140737488355328)=true:=C2 (by omega)
    simp only [Bool.toNat_true,Acp,cond_true,cond_false,e1,e2,e3,K6,Hl,decide_true]
    rfl
   ·have hL:List.length (bif c0 then r0++[r1] else r0)≤i + 1:=by cases c0<;>simp<;>omega
    have e1:=l5 (List.length (bif c0 then r0++[r1] else r0)) (by omega)
    have e2:decide (((List.length (bif c0 then r0++[r1] else r0):Nat):Int) < nI (List.length (bif c0 then r0++[r1] else r0) + 1))=true:=V1 (Nat.lt_succ_self _)
    have e3:decide ((r0.length + Bool.toNat c0 + 1) * 24≤140737488355328)=true:=C2 (by cases c0<;>simp<;>omega)
    simp only [Bool.toNat_true,cond_true,e1,e2,e3,K6,Hl,decide_true]
    rfl) (fun i s hi hI=>hI.step (by omega) _) (fun m s hI=>by
   show A4 (m + 1) a0.1 (nI a0.1.length) (a0.1.length:Int) s.1 s.2.1 s.2.2=_
   simp only [A4,Dn]
   rw [R1]
   rfl) (Ca a0.1 (nI a0.1.length) 0 [] false []) 0 ([],false,[]) (by omega) (by simp [Ca,nI]) ⟨by omega,by simp,fun q=>by omega,by simp⟩
  have hL':A4 (Ca a0.1 (nI a0.1.length) 0 [] false []) a0.1 (nI a0.1.length) 0 [] false []=_:=hL
  show (A4 (Ca a0.1 (nI a0.1.length) 0 [] false []) a0.1 (nI a0.1.length) 0 [] false []).bind _=_
  rw [hL']
  rfl
def Jd {R:Type} (k:Kt R):=(Xn (Dh 6) (.exit 0) 2 k)
def Mz {R:Type}:Lt R Dh:=(Qj (pat:=Dh) 6 (fun d k=>(Qw d).bind (Jd k)) Tc)
theorem Le:Bd Try.prog Ld:=Ea ⟨Qv,trivial⟩
theorem Qx {R:Type}:Db Try.prog R 43 0 Dh Mz Jc:=
 Ix (cfg:=⟨Ld,0,43,Dh⟩) 6 [] (fun NX X (d:(List Bi)×(Int)×(Int)×(List (List Aq))×(Bool)×(List Aq)×Unit)=>(u4 (Af (Af A6))) (Dn  NX X) d) (fun m d=>(u4 (Af (Af A6))) (A4 m) d) (fun d=>(u4 (Af (Af A6))) Ca d) Jd Le trivial (fun f NX (d:(List Bi)×(Int)×(Int)×(List (List Aq))×(Bool)×(List Aq)×Unit)=>by simp only [u4,Af,A6]; unfold Dn; simp only [nb])
theorem Tn:Fv Try.prog 7 Lc:=
 D5 (pat:=Dh) [Jc] Mz Le ⟨Qx,trivial⟩ Try.func7 (de:=fun x=>Gw x.1) (fun x r h=>(Tm x.1).trans h) fun _=>by kernel_rfl
def Fa (a b:Aq):Option Bool:=eqM Ay a b
def To:M5:=⟨[.rd Ay,.rd Ay],[some 3,some 3],[.rd .bool],[none]⟩
def Lg:SD:=⟨To,fun x=>(Fa x.1 x.2.1).bind fun r=>some ((r,()),(()))⟩
def Gy (a0 a1:Aq):Option ((((Bool)×Unit)×(Unit))):=
 bif !ByteArray.toList a0.1==ByteArray.toList a1.1 then some ((false,()),()) else bif !ByteArray.toList a0.2.1==ByteArray.toList a1.2.1 then some ((false,()),()) else bif !a0.2.2.1==a1.2.2.1 then some ((false,()),()) else some ((true,()),())
theorem Tp (a0 a1:Aq) r (h:Fa a0 a1=some r):Gy a0 a1=some ((r,()),(())):=by
 obtain ⟨hc,hd,rfl⟩:=K7 (t:=Ay) h
 obtain ⟨hc0,hc1,hc2,_⟩:Bq .str a0.1=true∧Bq .str a0.2.1=true∧Bq .bool a0.2.2.1=true∧True:=by
  have s:=hc
  obtain ⟨h0,s⟩:=B6 s
  obtain ⟨h1,s⟩:=B6 s
  obtain ⟨h2,s⟩:=B6 s
  exact ⟨h0,h1,h2,trivial⟩
 obtain ⟨hd0,hd1,hd2,_⟩:Bq .str a1.1=true∧Bq .str a1.2.1=true∧Bq .bool a1.2.2.1=true∧True:=by
  have s:=hd
  obtain ⟨h0,s⟩:=B6 s
  obtain ⟨h1,s⟩:=B6 s
  obtain ⟨h2,s⟩:=B6 s
  exact ⟨h0,h1,h2,trivial⟩
 unfold Gy
 have e0:(!(ByteArray.toList a0.1==ByteArray.toList a1.1))=!Yz a0.1 a1.1:=rfl
 have e1:(!(ByteArray.toList a0.2.1==ByteArray.toList a1.2.1))=!Yz a0.2.1 a1.2.1:=rfl
 have e2:(!(a0.2.2.1==a1.2.2.1))=!eqO a0.2.2.1 a1.2.2.1:=rfl
 simp only [e0,e1,e2,Option.bind_some]
 show _=some (((Yz a0.1 a1.1&&(Yz a0.2.1 a1.2.1&&(eqO a0.2.2.1 a1.2.2.1&&true))),()),())
 generalize Yz a0.1 a1.1=p0
 generalize Yz a0.2.1 a1.2.1=p1
 generalize eqO a0.2.2.1 a1.2.2.1=p2
 cases p0<;>cases p1<;>cases p2<;>rfl
theorem Tq:Fv Try.prog 26 Lg:=
 D5 (pat:=Mk) [] Tc (Ea (l:=[]) trivial) trivial Try.func26 (de:=fun x=>Gy x.1 x.2.1) (fun x r h=>Dc (Tp x.1 x.2.1) h) fun _=>by kernel_rfl
def E2 (a b:List Aq):Option Bool:=eqM (.sl Ay) a b
def R9:M5:=⟨[.rd (.sl Ay),.rd (.sl Ay)],[none,none],[.rd .bool],[none]⟩
def J9:SD:=⟨R9,fun x=>(E2 x.1 x.2.1).bind fun r=>some ((r,()),(()))⟩
def Ka:Tb:=tb [(26,Lg)]
def Ci:Nat→D9×(Nat→D9):=Pb [(5,⟨[.sl 0 0 Ay,.sl 1 0 Ay],[(0,.lf (.d (.sl Ay))),(1,.lf (.d (.sl Ay))),(5,.lf (.d tI))],[]⟩,[(2,p0),(1,⟨[],[(4,.lf (.d .bool))],[]⟩)])]
def Hw:Code:=(Bx (Ee Try.f17)).getD 0 .skip
def Bz (v0 v1:List Aq) (v5:Int):Nat:=((v0.length:Int) - v5).toNat + 1
def C4 {R:Type}  (NX:((List Aq)×(List Aq)×(Int)×Unit)→Option R) (X2:(Unit)→Option R) (X1:((Bool)×Unit)→Option R) (v0:List Aq) (v1:List Aq) (v5:Int):Option R:=
 bif decide (v5 < nI v0.length) then bif decide (0≤v5) then bif decide (v5 < nI v0.length) then bif decide (0≤v5) then bif decide (v5 < nI v1.length) then ((Fa (v0.getD v5.toNat (Ad,Ad,false,())) (v1.getD v5.toNat (Ad,Ad,false,()))).bind fun val=>some ((val,()),())).bind fun val=>bif !val.1.1 then X1 (false,()) else NX (v0,v1,IntKind.i64.wrap (v5 + 1),()) else none else none else none else none else X2 PUnit.unit
def A0:Nat→(List Aq)→(List Aq)→(Int) →  Option ((Unit) ⊕ ((Bool)×Unit))
 | 0,_,_,_=>none
 | m + 1,v0,v1,v5=>C4  (fun d=>A0 m d.1 d.2.1 d.2.2.1) (fun d=>some (.inl (d))) (fun d=>some (.inr (d))) v0 v1 v5
def Pc (d:(List Aq)×(List Aq)×(Int)×Unit):Option ((Unit) ⊕ ((Bool)×Unit)):=(Af (Af (Af A6))) (A0 ((Af (Af (Af A6))) Bz d)) d
def F2 (a0 a1:List Aq):Option ((((Bool)×Unit)×(Unit))):=
 bif nI a0.length != nI a1.length then some ((false,()),()) else ((fun d=>A0 (Bz d.1 d.2.1 d.2.2.1) d.1 d.2.1 d.2.2.1) (a0,a1,0,())).bind fun val=>Fj (fun d=>some ((true,()),())) (fun d=>some (d,())) val
theorem Sa (a0 a1:List Aq) r (h:E2 a0 a1=some r):F2 a0 a1=some ((r,()),(())):=by
 obtain ⟨hc,hd,rfl⟩:=K7 (t:=.sl Ay) h
 obtain ⟨hlx0,hx⟩:=I1 hc
 obtain ⟨hly0,hy⟩:=I1 hd
 have hlx:a0.length < 1152921504606846976:=hlx0
 have hly:a1.length < 1152921504606846976:=hly0
 clear hlx0 hly0 hc hd h
 ·unfold F2
  by_cases hl:a1.length=a0.length
  ·have c1:(nI a0.length != nI a1.length)=false:=by simp [nI,hl]
   have hL:=V3 (xs:=a0) (ys:=a1) ((Ad),(Ad),false,()) (fun x y:Aq=>Lo Ay x y) (g:=fun m i=>A0 m a0 a1 i) (ok:=.inl ()) (bad:=.inr (false,())) hl (fun m i hi=>by
    show A0 (m + 1) a0 a1 i=_
    simp only [A0,C4]
    rw [V1 hi,K6,V1 (show i < a1.length by omega),wI (by omega)]
    simp only [cond_true,Hl]
    have f1:Bq Ay (List.getD (α:=Aq) a0 i ((Ad),(Ad),false,()))=true:=hx _ (Iz ((Ad),(Ad),false,()) hi)
    have f2:Bq Ay (List.getD (α:=Aq) a1 i ((Ad),(Ad),false,()))=true:=hy _ (Iz ((Ad),(Ad),false,()) (by omega))
    have hE:Fa (List.getD (α:=Aq) a0 i ((Ad),(Ad),false,())) (List.getD (α:=Aq) a1 i ((Ad),(Ad),false,()))=some (Lo Ay (List.getD (α:=Aq) a0 i ((Ad),(Ad),false,())) (List.getD (α:=Aq) a1 i ((Ad),(Ad),false,()))):=by
     exact Xv (t:=Ay) (x:=(List.getD (α:=Aq) a0 i ((Ad),(Ad),false,()))) (y:=(List.getD (α:=Aq) a1 i ((Ad),(Ad),false,()))) f1 f2
    rw [hE]
    cases q:Lo Ay (List.getD (α:=Aq) a0 i ((Ad),(Ad),false,())) (List.getD (α:=Aq) a1 i ((Ad),(Ad),false,()))<;>simp only [Option.bind_some,q]<;>rfl) (fun m=>by
    show A0 (m + 1) a0 a1 a0.length=_
    simp only [A0,C4]
    rw [R1]
    rfl) (Bz a0 a1 0) 0 (by omega) (by simp [Bz])
   rw [c1]
   have hL':A0 (Bz a0 a1 0) a0 a1 0=_:=hL
   show (A0 (Bz a0 a1 0) a0 a1 0).bind _=some ((Px (α:=Aq) (fun x y:Aq=>Lo Ay x y) a0 a1,()),())
   rw [hL',List.drop_zero,List.drop_zero]
   cases Px (α:=Aq) (fun x y:Aq=>Lo Ay x y) a0 a1<;>rfl
  ·have c1:(nI a0.length != nI a1.length)=true:=by simp [nI]; omega
   rw [c1]
   show _=some ((Px (α:=Aq) (fun x y:Aq=>Lo Ay x y) a0 a1,()),())
   rw [V2 (fun q=>hl q.symm)]
   rfl
def Hx {R:Type} (k:Kt R):=(Fj (Xn (Ci 5) (.exit 0) 2 k) (Xn (Ci 5) .ret 1 k))
def Lh {R:Type}:Lt R Ci:=(Qj (pat:=Ci) 5 (fun d k=>(Pc d).bind (Hx k)) Tc)
theorem Kb:Bd Try.prog Ka:=Ea ⟨Tq,trivial⟩
theorem Pd {R:Type}:Db Try.prog R 27 0 Ci Lh Hw:=
 Ix (cfg:=⟨Ka,0,27,Ci⟩) 5 [] (fun NX X d=>(Af (Af (Af A6))) (C4  NX (fun e=>X (.inl (e))) (fun e=>X (.inr (e)))) d) (fun m d=>(Af (Af (Af A6))) (A0 m) d) (fun d=>(Af (Af (Af A6))) Bz d) Hx Kb trivial (fun f NX d=>by simp only [u4,Af,A6]; unfold C4; simp only [nb])
theorem Sb:Fv Try.prog 17 J9:=
 D5 (pat:=Ci) [Hw] Lh Kb ⟨Pd,trivial⟩ Try.func17 (de:=fun x=>F2 x.1 x.2.1) (fun x r h=>Dc (Sa x.1 x.2.1) h) fun _=>by kernel_rfl
def Cw (a b:List (List Aq)):Option Bool:=eqM (.sl (.sl Ay)) a b
def Qy:M5:=⟨[.rd (.sl (.sl Ay)),.rd (.sl (.sl Ay))],[none,none],[.rd .bool],[none]⟩
def Je:SD:=⟨Qy,fun x=>(Cw x.1 x.2.1).bind fun r=>some ((r,()),(()))⟩
def Jf:Tb:=tb [(17,J9)]
def Cb:Nat→D9×(Nat→D9):=Pb [(5,⟨[.sl 0 0 (.sl Ay),.sl 1 0 (.sl Ay)],[(0,.lf (.d (.sl (.sl Ay)))),(1,.lf (.d (.sl (.sl Ay)))),(5,.lf (.d tI))],[]⟩,[(2,p0),(1,⟨[],[(4,.lf (.d .bool))],[]⟩)])]
def Hd:Code:=(Bx (Ee Try.f8)).getD 0 .skip
def Bt (v0 v1:List (List Aq)) (v5:Int):Nat:=((v0.length:Int) - v5).toNat + 1
def Cu {R:Type}  (NX:((List (List Aq))×(List (List Aq))×(Int)×Unit)→Option R) (X2:(Unit)→Option R) (X1:((Bool)×Unit)→Option R) (v0:List (List Aq)) (v1:List (List Aq)) (v5:Int):Option R:=
 bif decide (v5 < nI v0.length) then bif decide (0≤v5) then bif decide (v5 < nI v0.length) then bif decide (0≤v5) then bif decide (v5 < nI v1.length) then ((E2 (v0.getD v5.toNat []) (v1.getD v5.toNat [])).bind fun val=>some ((val,()),())).bind fun val=>bif !val.1.1 then X1 (false,()) else NX (v0,v1,IntKind.i64.wrap (v5 + 1),()) else none else none else none else none else X2 PUnit.unit
def Ax:Nat→(List (List Aq))→(List (List Aq))→(Int) →  Option ((Unit) ⊕ ((Bool)×Unit))
 | 0,_,_,_=>none
 | m + 1,v0,v1,v5=>Cu  (fun d=>Ax m d.1 d.2.1 d.2.2.1) (fun d=>some (.inl (d))) (fun d=>some (.inr (d))) v0 v1 v5
def Oe (d:(List (List Aq))×(List (List Aq))×(Int)×Unit):Option ((Unit) ⊕ ((Bool)×Unit)):=(Af (Af (Af A6))) (Ax ((Af (Af (Af A6))) Bt d)) d
def Fh (a0 a1:List (List Aq)):Option ((((Bool)×Unit)×(Unit))):=
 bif nI a0.length != nI a1.length then some ((false,()),()) else ((fun d=>Ax (Bt d.1 d.2.1 d.2.2.1) d.1 d.2.1 d.2.2.1) (a0,a1,0,())).bind fun val=>Fj (fun d=>some ((true,()),())) (fun d=>some (d,())) val
theorem Qz (a0 a1:List (List Aq)) r (h:Cw a0 a1=some r):Fh a0 a1=some ((r,()),(())):=by
 obtain ⟨hc,hd,rfl⟩:=K7 (t:=.sl (.sl Ay)) h
 obtain ⟨hlx0,hx⟩:=I1 hc
 obtain ⟨hly0,hy⟩:=I1 hd
 have hlx:a0.length < 1152921504606846976:=hlx0
 have hly:a1.length < 1152921504606846976:=hly0
 clear hlx0 hly0 hc hd h
 ·unfold Fh
  by_cases hl:a1.length=a0.length
  ·have c1:(nI a0.length != nI a1.length)=false:=by simp [nI,hl]
   have hL:=V3 (xs:=a0) (ys:=a1) [] (fun x y:List Aq=>Lo (.sl Ay) x y) (g:=fun m i=>Ax m a0 a1 i) (ok:=.inl ()) (bad:=.inr (false,())) hl (fun m i hi=>by
    show Ax (m + 1) a0 a1 i=_
    simp only [Ax,Cu]
    rw [V1 hi,K6,V1 (show i < a1.length by omega),wI (by omega)]
    simp only [cond_true,Hl]
    have f1:Bq (.sl Ay) (List.getD (α:=List Aq) a0 i [])=true:=hx _ (Iz [] hi)
    have f2:Bq (.sl Ay) (List.getD (α:=List Aq) a1 i [])=true:=hy _ (Iz [] (by omega))
    have hE:E2 (List.getD (α:=List Aq) a0 i []) (List.getD (α:=List Aq) a1 i [])=some (Lo (.sl Ay) (List.getD (α:=List Aq) a0 i []) (List.getD (α:=List Aq) a1 i [])):=by
     exact Xv (t:=(.sl Ay)) (x:=(List.getD (α:=List Aq) a0 i [])) (y:=(List.getD (α:=List Aq) a1 i [])) f1 f2
    rw [hE]
    cases q:Lo (.sl Ay) (List.getD (α:=List Aq) a0 i []) (List.getD (α:=List Aq) a1 i [])<;>simp only [Option.bind_some,q]<;>rfl) (fun m=>by
    show Ax (m + 1) a0 a1 a0.length=_
    simp only [Ax,Cu]
    rw [R1]
    rfl) (Bt a0 a1 0) 0 (by omega) (by simp [Bt])
   rw [c1]
   have hL':Ax (Bt a0 a1 0) a0 a1 0=_:=hL
   show (Ax (Bt a0 a1 0) a0 a1 0).bind _=some ((Px (α:=List Aq) (fun x y:List Aq=>Lo (.sl Ay) x y) a0 a1,()),())
   rw [hL',List.drop_zero,List.drop_zero]
   cases Px (α:=List Aq) (fun x y:List Aq=>Lo (.sl Ay) x y) a0 a1<;>rfl
  ·have c1:(nI a0.length != nI a1.length)=true:=by simp [nI]; omega
   rw [c1]
   show _=some ((Px (α:=List Aq) (fun x y:List Aq=>Lo (.sl Ay) x y) a0 a1,()),())
   rw [V2 (fun q=>hl q.symm)]
   rfl
def He {R:Type} (k:Kt R):=(Fj (Xn (Cb 5) (.exit 0) 2 k) (Xn (Cb 5) .ret 1 k))
def Kc {R:Type}:Lt R Cb:=(Qj (pat:=Cb) 5 (fun d k=>(Oe d).bind (He k)) Tc)
theorem Jg:Bd Try.prog Jf:=Ea ⟨Sb,trivial⟩
theorem Of {R:Type}:Db Try.prog R 27 0 Cb Kc Hd:=
 Ix (cfg:=⟨Jf,0,27,Cb⟩) 5 [] (fun NX X d=>(Af (Af (Af A6))) (Cu  NX (fun e=>X (.inl (e))) (fun e=>X (.inr (e)))) d) (fun m d=>(Af (Af (Af A6))) (Ax m) d) (fun d=>(Af (Af (Af A6))) Bt d) He Jg trivial (fun f NX d=>by simp only [u4,Af,A6]; unfold Cu; simp only [nb])
theorem Q0:Fv Try.prog 8 Je:=
 D5 (pat:=Cb) [Hd] Kc Jg ⟨Of,trivial⟩ Try.func8 (de:=fun x=>Fh x.1 x.2.1) (fun x r h=>Dc (Qz x.1 x.2.1) h) fun _=>by kernel_rfl
def G5 (a b:Bi):Option Bool:=eqM A5 a b
def Yh:M5:=⟨[.rd A5,.rd A5],[some 2,some 2],[.rd .bool],[none]⟩
def Og:SD:=⟨Yh,fun x=>(G5 x.1 x.2.1).bind fun r=>some ((r,()),(()))⟩
def Jh (a0 a1:Bi):Option ((((Bool)×Unit)×(Unit))):=
 bif !ByteArray.toList a0.1==ByteArray.toList a1.1 then some ((false,()),()) else bif !ByteArray.toList a0.2.1==ByteArray.toList a1.2.1 then some ((false,()),()) else some ((true,()),())
theorem Yi (a0 a1:Bi) r (h:G5 a0 a1=some r):Jh a0 a1=some ((r,()),(())):=by
 obtain ⟨hc,hd,rfl⟩:=K7 (t:=A5) h
 obtain ⟨hc0,hc1,_⟩:Bq .str a0.1=true∧Bq .str a0.2.1=true∧True:=by
  have s:=hc
  obtain ⟨h0,s⟩:=B6 s
  obtain ⟨h1,s⟩:=B6 s
  exact ⟨h0,h1,trivial⟩
 obtain ⟨hd0,hd1,_⟩:Bq .str a1.1=true∧Bq .str a1.2.1=true∧True:=by
  have s:=hd
  obtain ⟨h0,s⟩:=B6 s
  obtain ⟨h1,s⟩:=B6 s
  exact ⟨h0,h1,trivial⟩
 unfold Jh
 have e0:(!(ByteArray.toList a0.1==ByteArray.toList a1.1))=!Yz a0.1 a1.1:=rfl
 have e1:(!(ByteArray.toList a0.2.1==ByteArray.toList a1.2.1))=!Yz a0.2.1 a1.2.1:=rfl
 simp only [e0,e1,Option.bind_some]
 show _=some (((Yz a0.1 a1.1&&(Yz a0.2.1 a1.2.1&&true)),()),())
 generalize Yz a0.1 a1.1=p0
 generalize Yz a0.2.1 a1.2.1=p1
 cases p0<;>cases p1<;>rfl
theorem Yj:Fv Try.prog 27 Og:=
 D5 (pat:=Mk) [] Tc (Ea (l:=[]) trivial) trivial Try.func27 (de:=fun x=>Jh x.1 x.2.1) (fun x r h=>Dc (Yi x.1 x.2.1) h) fun _=>by kernel_rfl
def F3 (a b:List Bi):Option Bool:=eqM (.sl A5) a b
def U7:M5:=⟨[.rd (.sl A5),.rd (.sl A5)],[none,none],[.rd .bool],[none]⟩
def M0:SD:=⟨U7,fun x=>(F3 x.1 x.2.1).bind fun r=>some ((r,()),(()))⟩
def M1:Tb:=tb [(27,Og)]
def C1:Nat→D9×(Nat→D9):=Pb [(5,⟨[.sl 0 0 A5,.sl 1 0 A5],[(0,.lf (.d (.sl A5))),(1,.lf (.d (.sl A5))),(5,.lf (.d tI))],[]⟩,[(2,p0),(1,⟨[],[(4,.lf (.d .bool))],[]⟩)])]
def Kd:Code:=(Bx (Ee Try.f18)).getD 0 .skip
def Cj (v0 v1:List Bi) (v5:Int):Nat:=((v0.length:Int) - v5).toNat + 1
def Dz {R:Type}  (NX:((List Bi)×(List Bi)×(Int)×Unit)→Option R) (X2:(Unit)→Option R) (X1:((Bool)×Unit)→Option R) (v0:List Bi) (v1:List Bi) (v5:Int):Option R:=
 bif decide (v5 < nI v0.length) then bif decide (0≤v5) then bif decide (v5 < nI v0.length) then bif decide (0≤v5) then bif decide (v5 < nI v1.length) then ((G5 (v0.getD v5.toNat (Ad,Ad,())) (v1.getD v5.toNat (Ad,Ad,()))).bind fun val=>some ((val,()),())).bind fun val=>bif !val.1.1 then X1 (false,()) else NX (v0,v1,IntKind.i64.wrap (v5 + 1),()) else none else none else none else none else X2 PUnit.unit
def Ba:Nat→(List Bi)→(List Bi)→(Int) →  Option ((Unit) ⊕ ((Bool)×Unit))
 | 0,_,_,_=>none
 | m + 1,v0,v1,v5=>Dz  (fun d=>Ba m d.1 d.2.1 d.2.2.1) (fun d=>some (.inl (d))) (fun d=>some (.inr (d))) v0 v1 v5
def Sc (d:(List Bi)×(List Bi)×(Int)×Unit):Option ((Unit) ⊕ ((Bool)×Unit)):=(Af (Af (Af A6))) (Ba ((Af (Af (Af A6))) Cj d)) d
def Hs (a0 a1:List Bi):Option ((((Bool)×Unit)×(Unit))):=
 bif nI a0.length != nI a1.length then some ((false,()),()) else ((fun d=>Ba (Cj d.1 d.2.1 d.2.2.1) d.1 d.2.1 d.2.2.1) (a0,a1,0,())).bind fun val=>Fj (fun d=>some ((true,()),())) (fun d=>some (d,())) val
theorem U8 (a0 a1:List Bi) r (h:F3 a0 a1=some r):Hs a0 a1=some ((r,()),(())):=by
 obtain ⟨hc,hd,rfl⟩:=K7 (t:=.sl A5) h
 obtain ⟨hlx0,hx⟩:=I1 hc
 obtain ⟨hly0,hy⟩:=I1 hd
 have hlx:a0.length < 1152921504606846976:=hlx0
 have hly:a1.length < 1152921504606846976:=hly0
 clear hlx0 hly0 hc hd h
 ·unfold Hs
  by_cases hl:a1.length=a0.length
  ·have c1:(nI a0.length != nI a1.length)=false:=by simp [nI,hl]
   have hL:=V3 (xs:=a0) (ys:=a1) ((Ad),(Ad),()) (fun x y:Bi=>Lo A5 x y) (g:=fun m i=>Ba m a0 a1 i) (ok:=.inl ()) (bad:=.inr (false,())) hl (fun m i hi=>by
    show Ba (m + 1) a0 a1 i=_
    simp only [Ba,Dz]
    rw [V1 hi,K6,V1 (show i < a1.length by omega),wI (by omega)]
    simp only [cond_true,Hl]
    have f1:Bq A5 (List.getD (α:=Bi) a0 i ((Ad),(Ad),()))=true:=hx _ (Iz ((Ad),(Ad),()) hi)
    have f2:Bq A5 (List.getD (α:=Bi) a1 i ((Ad),(Ad),()))=true:=hy _ (Iz ((Ad),(Ad),()) (by omega))
    have hE:G5 (List.getD (α:=Bi) a0 i ((Ad),(Ad),())) (List.getD (α:=Bi) a1 i ((Ad),(Ad),()))=some (Lo A5 (List.getD (α:=Bi) a0 i ((Ad),(Ad),())) (List.getD (α:=Bi) a1 i ((Ad),(Ad),()))):=by
     exact Xv (t:=A5) (x:=(List.getD (α:=Bi) a0 i ((Ad),(Ad),()))) (y:=(List.getD (α:=Bi) a1 i ((Ad),(Ad),()))) f1 f2
    rw [hE]
    cases q:Lo A5 (List.getD (α:=Bi) a0 i ((Ad),(Ad),())) (List.getD (α:=Bi) a1 i ((Ad),(Ad),()))<;>simp only [Option.bind_some,q]<;>rfl) (fun m=>by
    show Ba (m + 1) a0 a1 a0.length=_
    simp only [Ba,Dz]
    rw [R1]
    rfl) (Cj a0 a1 0) 0 (by omega) (by simp [Cj])
   rw [c1]
   have hL':Ba (Cj a0 a1 0) a0 a1 0=_:=hL
   show (Ba (Cj a0 a1 0) a0 a1 0).bind _=some ((Px (α:=Bi) (fun x y:Bi=>Lo A5 x y) a0 a1,()),())
   rw [hL',List.drop_zero,List.drop_zero]
   cases Px (α:=Bi) (fun x y:Bi=>Lo A5 x y) a0 a1<;>rfl
  ·have c1:(nI a0.length != nI a1.length)=true:=by simp [nI]; omega
   rw [c1]
   show _=some ((Px (α:=Bi) (fun x y:Bi=>Lo A5 x y) a0 a1,()),())
   rw [V2 (fun q=>hl q.symm)]
   rfl
def Ke {R:Type} (k:Kt R):=(Fj (Xn (C1 5) (.exit 0) 2 k) (Xn (C1 5) .ret 1 k))
def Oh {R:Type}:Lt R C1:=(Qj (pat:=C1) 5 (fun d k=>(Sc d).bind (Ke k)) Tc)
theorem M2:Bd Try.prog M1:=Ea ⟨Yj,trivial⟩
theorem Sd {R:Type}:Db Try.prog R 27 0 C1 Oh Kd:=
 Ix (cfg:=⟨M1,0,27,C1⟩) 5 [] (fun NX X d=>(Af (Af (Af A6))) (Dz  NX (fun e=>X (.inl (e))) (fun e=>X (.inr (e)))) d) (fun m d=>(Af (Af (Af A6))) (Ba m) d) (fun d=>(Af (Af (Af A6))) Cj d) Ke M2 trivial (fun f NX d=>by simp only [u4,Af,A6]; unfold Dz; simp only [nb])
theorem U9:Fv Try.prog 18 M0:=
 D5 (pat:=C1) [Kd] Oh M2 ⟨Sd,trivial⟩ Try.func18 (de:=fun x=>Hs x.1 x.2.1) (fun x r h=>Dc (U8 x.1 x.2.1) h) fun _=>by kernel_rfl
def F4 (a b:Ko):Option Bool:=eqM L7 a b
def Va:M5:=⟨[.rd L7,.rd L7],[some 1,some 1],[.rd .bool],[none]⟩
def M3:SD:=⟨Va,fun x=>(F4 x.1 x.2.1).bind fun r=>some ((r,()),(()))⟩
def Ht (a0 a1:Ko):Option ((((Bool)×Unit)×(Unit))):=
 ((F3 a0.1 a1.1).bind fun val=>some ((val,()),())).bind fun val=>bif !val.1.1 then some ((false,()),()) else some ((true,()),())
theorem Vb (a0 a1:Ko) r (h:F4 a0 a1=some r):Ht a0 a1=some ((r,()),(())):=by
 obtain ⟨hc,hd,rfl⟩:=K7 (t:=L7) h
 obtain ⟨hc0,_⟩:Bq (.sl A5) a0.1=true∧True:=by
  have s:=hc
  obtain ⟨h0,s⟩:=B6 s
  exact ⟨h0,trivial⟩
 obtain ⟨hd0,_⟩:Bq (.sl A5) a1.1=true∧True:=by
  have s:=hd
  obtain ⟨h0,s⟩:=B6 s
  exact ⟨h0,trivial⟩
 unfold Ht
 have e0:F3 a0.1 a1.1=some (Lo (.sl A5) a0.1 a1.1):=Xv (t:=(.sl A5)) hc0 hd0
 simp only [e0,Option.bind_some]
 show _=some (((Lo (.sl A5) a0.1 a1.1&&true),()),())
 generalize Lo (.sl A5) a0.1 a1.1=p0
 cases p0<;>rfl
theorem Vc:Fv Try.prog 9 M3:=
 D5 (pat:=Mk) [] Tc (Ea (l:=[(18,M0)]) ⟨U9,trivial⟩) trivial Try.func9 (de:=fun x=>Ht x.1 x.2.1) (fun x r h=>Dc (Vb x.1 x.2.1) h) fun _=>by kernel_rfl
def Az (k:Int):Option Aj:=if k≤36028797018963968 then some (Gc k) else none
def Do (v0:Int) (v3:Aj):Nat:=21
def Tr:M5:=⟨[.rd tI],[none],[.rd .str],[none]⟩
def E3:SD:=⟨Tr,fun x=>(Az x.1).bind fun r=>some ((r,()),(()))⟩
def Li:Tb:=tb []
def Di:Nat→D9×(Nat→D9):=Pb [(5,⟨[],[(0,.lf (.d tI)),(3,.lf (.d .str))],[]⟩,[(2,⟨[],[(3,.lf (.d .str))],[]⟩)])]
def Ji:Code:=(Bx (Ee Try.f28)).getD 0 .skip
def Dp {R:Type}  (NX:((Int)×(Aj)×Unit)→Option R) (X2:((Aj)×Unit)→Option R) (v0:Int) (v3:Aj):Option R:=
 bif decide (v0 > 0) then bif decide ((strOfNums [IntKind.u8.wrap (IntKind.i64.wrap (48 + v0.tmod 10))]).size + v3.size≤9223372036854775807) then NX (IntKind.i64.wrap (v0.tdiv 10),strOfNums [IntKind.u8.wrap (IntKind.i64.wrap (48 + v0.tmod 10))]++v3,()) else none else X2 (v3,())
def Bk:Nat→(Int)→(Aj) →  Option ((Aj)×Unit)
 | 0,_,_=>none
 | m + 1,v0,v3=>Dp  (fun d=>Bk m d.1 d.2.1) (fun d=>some (d)) v0 v3
def Q1 (d:(Int)×(Aj)×Unit):Option ((Aj)×Unit):=(Af (Af A6)) (Bk ((Af (Af A6)) Do d)) d
def Gz (a0:Int):Option ((((Aj)×Unit)×(Unit))):=
 bif decide (a0≤0) then some ((ByteArray.mk #[109,48],()),()) else ((fun d=>Bk (Do d.1 d.2.1) d.1 d.2.1) (a0,Ad,())).bind fun val=>bif decide ((ByteArray.mk #[109]).size + ByteArray.size val.1≤9223372036854775807) then some ((ByteArray.mk #[109]++val.1,()),()) else none
theorem Abh {k:Int} (h:0≤k):IntKind.wrap .u8 (IntKind.wrap .i64 (48 + Int.tmod k 10))=48 + k % 10:=by
 rw [Int.tmod_eq_emod_of_nonneg h]
 have h1:0≤k % 10:=Int.emod_nonneg _ (by omega)
 have h2:k % 10 < 10:=Int.emod_lt_of_pos _ (by omega)
 have e1:IntKind.wrap .i64 (48 + k % 10)=48 + k % 10:=D2 (by omega) (by omega)
 rw [e1]
 simp [IntKind.wrap,IntKind.bits,IntKind.signed]
 omega
theorem Lj:∀ (m:Nat) (k:Int) (out:Aj),0≤k→k≤36028797018963968→k < 10 ^ m→out.size + m≤100→Bk (m + 1) k out=some (N1 m k out,())
 | 0,k,out,h0,hb,h1,_=>by
  simp only [Bk,Dp]
  have:¬ k > 0:=by simp at h1; omega
  rw [Na this]
  rfl
 | m + 1,k,out,h0,hb,h1,h2=>by
  rw [Bk]
  simp only [Dp,N1]
  by_cases h:k > 0
  ·have e:IntKind.wrap .i64 (Int.tdiv k 10)=k / 10:=by
    rw [Int.tdiv_eq_ediv_of_nonneg h0]
    exact D2 (by omega) (by omega)
   have hs:ByteArray.size (strOfNums [48 + k % 10])=1:=strOfNums_size _
   have h3:k / 10 < 10 ^ m:=Int.ediv_lt_of_lt_mul (by omega) (by rw [Int.pow_succ] at h1; exact h1)
   have c:ByteArray.size (strOfNums [48 + k % 10]) + ByteArray.size out≤9223372036854775807:=by rw [hs]; omega
   have ih:=Lj m (k / 10) (strOfNums [48 + k % 10]++out) (by omega) (by omega) h3 (by rw [ByteArray.size_append,hs]; omega)
   rw [Abh h0,C2 h,if_pos h,e,C2 c]
   exact ih
  ·rw [Na h,if_neg h]
   rfl
theorem Uk:∀ (m:Nat) (k:Int) (out:Aj),(N1 m k out).size≤out.size + m
 | 0,k,out=>Nat.le_refl _
 | m + 1,k,out=>by
  simp only [N1]
  split
  ·have:=Uk m (k / 10) (strOfNums [48 + k % 10]++out)
   rw [ByteArray.size_append,strOfNums_size] at this
   simp at this
   omega
  ·omega
theorem Tt (a0:Int) r (h:Az a0=some r):Gz a0=some ((r,()),(())):=by
 unfold Az at h
 split at h
 ·rename_i hc
  cases h
  unfold Gz Gc
  by_cases q:a0≤0
  ·rw [C2 q,if_pos q]; rfl
  ·rw [Na q,if_neg q]
   have hL:=Lj 20 a0 ⟨#[]⟩ (by omega) hc (by omega) (by decide)
   have hL':Bk (Do a0 ⟨#[]⟩) a0 ⟨#[]⟩=_:=hL
   show (Bk (Do a0 ⟨#[]⟩) a0 ⟨#[]⟩).bind _=_
   rw [hL']
   have:=Uk 20 a0 ⟨#[]⟩
   have h0:ByteArray.size ⟨#[]⟩=0:=rfl
   have h1:ByteArray.size ⟨#[109]⟩=1:=rfl
   have c:ByteArray.size ⟨#[109]⟩ + ByteArray.size (N1 20 a0 ⟨#[]⟩)≤9223372036854775807:=by omega
   show (bif decide (ByteArray.size ⟨#[109]⟩ + ByteArray.size (N1 20 a0 ⟨#[]⟩)≤9223372036854775807) then _ else _)=_
   rw [C2 c]
   rfl
 ·cases h
def Jj {R:Type} (k:Kt R):=(Xn (Di 5) (.exit 0) 2 k)
def M4 {R:Type}:Lt R Di:=(Qj (pat:=Di) 5 (fun d k=>(Q1 d).bind (Jj k)) Tc)
theorem Lk:Bd Try.prog Li:=Ea trivial
theorem Q2 {R:Type}:Db Try.prog R 20 0 Di M4 Ji:=
 Ix (cfg:=⟨Li,0,20,Di⟩) 5 [] (fun NX X d=>(Af (Af A6)) (Dp  NX X) d) (fun m d=>(Af (Af A6)) (Bk m) d) (fun d=>(Af (Af A6)) Do d) Jj Lk trivial (fun f NX d=>by simp only [u4,Af,A6]; unfold Dp; simp only [nb])
theorem G0:Fv Try.prog 28 E3:=
 D5 (pat:=Di) [Ji] M4 Lk ⟨Q2,trivial⟩ Try.func28 (de:=fun x=>Gz x.1) (fun x r h=>Dc (Tt x.1) h) fun _=>by kernel_rfl
def E4 (a:List Bi) (k:Int):Option (Int×(List Bi)):=Py A5 a k
def Se:M5:=⟨[.mu 41 A5,.rd tI],[none,none],[.rd tI],[none]⟩
def Kf:SD:=⟨Se,fun x=>(E4 x.1 x.2.1).bind fun r=>some ((r.1,()),(r.2,()))⟩
def Kg:Tb:=tb [(28,E3)]
def Cx:Nat→D9×(Nat→D9):=Pb [(3,⟨[],[(0,.lf (.row 0)),(1,.lf (.d tI)),(5,.lf (.d tI))],[.row 41 A5]⟩,[(2,⟨[],[(1,.lf (.d tI))],[.row 41 A5]⟩)])]
def Hy:Code:=(Bx (Ee Try.f19)).getD 0 .skip
def B0 (v1 v5:Int) (r0:List Bi):Nat:=((r0.length:Int) - v5).toNat + 1
def C5 {R:Type}  (NX:((Int)×(Int)×(List Bi)×Unit)→Option R) (X2:((Int)×(List Bi)×Unit)→Option R) (v1:Int) (v5:Int) (r0:List Bi):Option R:=
 bif decide (v5 < nI r0.length) then ((Az v1).bind fun val=>some ((val,()),())).bind fun val=>bif decide (0≤v5) then bif decide (v5 < nI r0.length) then bif decide (v5.toNat < r0.length) then ((Az (IntKind.i64.wrap (v1 + 1))).bind fun val=>some ((val,()),())).bind fun val_1=>bif decide (0≤v5) then bif decide (v5 < nI (r0.set v5.toNat (val.1.1,(r0.getD v5.toNat (Ad,Ad,())).2)).length) then bif decide (v5.toNat < (r0.set v5.toNat (val.1.1,(r0.getD v5.toNat (Ad,Ad,())).2)).length) then NX (IntKind.i64.wrap (IntKind.i64.wrap (v1 + 1) + 1),IntKind.i64.wrap (v5 + 1),(r0.set v5.toNat (val.1.1,(r0.getD v5.toNat (Ad,Ad,())).2)).set v5.toNat (((r0.set v5.toNat (val.1.1,(r0.getD v5.toNat (Ad,Ad,())).2)).getD v5.toNat (Ad,Ad,())).1,val_1.1),()) else none else none else none else none else none else none else X2 (v1,r0,())
def Ar:Nat→(Int)→(Int)→(List Bi) →  Option ((Int)×(List Bi)×Unit)
 | 0,_,_,_=>none
 | m + 1,v1,v5,r0=>C5  (fun d=>Ar m d.1 d.2.1 d.2.2.1) (fun d=>some (d)) v1 v5 r0
def Pf (d:(Int)×(Int)×(List Bi)×Unit):Option ((Int)×(List Bi)×Unit):=(Af (Af (Af A6))) (Ar ((Af (Af (Af A6))) B0 d)) d
def F5 (a0:List Bi) (a1:Int):Option ((((Int)×Unit)×Ko)):=
 ((fun d=>Ar (B0 d.1 d.2.1 d.2.2.1) d.1 d.2.1 d.2.2.1) (a1,0,a0,())).bind fun val=>some ((val.1,()),val.2)
theorem Sf (a0:List Bi) (a1:Int) r (h:E4 a0 a1=some r):F5 a0 a1=some ((r.1,()),(r.2,())):=by
 obtain ⟨g0,g1,hl0,rfl⟩:=Xw (t:=A5) h
 have hl:a0.length≤1125899906842624:=hl0
 have hEE:(fun k:Int=>(show Bi from (mkE A5 k).1))=(fun k:Int=>(Gc (k),Gc (k + 1),())):=funext fun k=>by
  show (Gc (k),Gc (k + 1),())=(Gc (k),Gc (k + 1),())
  try simp only [Int.add_assoc,Int.add_zero]
  try rfl
 show _=some ((a1 + (a0.length:Int) * 2,()),(gL (fun k:Int=>(show Bi from (mkE A5 k).1)) 2 a0.length a1,()))
 rw [hEE]
 unfold F5
 have hL:=Tf (fun k:Int=>(Gc (k),Gc (k + 1),())) 2 (n:=a0.length) (K:=36028797018963000) (g:=fun m k i r=>Ar m k i r) (ok:=fun k r=>(k,r,())) (fun m i k r hi hr h1 hK=>by
  show Ar (m + 1) k i r=_
  have hK1:k + 2≤36028797018963000:=by
   have:(1:Int)≤(a0.length - i:Nat):=by omega
   omega
  rw [show Ar (m + 1) k i r=Ar (m + 1) (k + 0) i r from by rw [Int.add_zero]]
  have k0:k=k + 0:=(Int.add_zero k).symm
  have t0:Az (k + 0)=some (Gc (k + 0)):=if_pos (by omega)
  have t1:Az (k + 1)=some (Gc (k + 1)):=if_pos (by omega)
  have w0:IntKind.i64.wrap (k + 0 + 1)=k + 1:=by rw [D2 (by omega) (by omega)]; omega
  have w1:IntKind.i64.wrap (k + 1 + 1)=k + 2:=by rw [D2 (by omega) (by omega)]; omega
  have hir:i < r.length:=by omega
  simp only [Ar,C5]
  simp only [t0,t1,  Option.bind_some,w0,w1,  List.length_set,List.set_set,V1 hir,K6,Ag2 hir,wI (show i < 4611686018427387904 by omega),cond_true,Hl,Et hir]
  first | rfl | (rw [Int.add_zero]; rfl) | (simp only [Int.add_zero]; rfl)) (fun m k r hr=>by
  show Ar (m + 1) k a0.length r=_
  simp only [Ar,C5,hr]
  rw [R1]
  rfl) (B0 a1 0 a0) 0 a1 a0 (by omega) (by simp [B0]) rfl g0 (by omega)
 have hL':Ar (B0 a1 0 a0) a1 0 a0=_:=hL
 show (Ar (B0 a1 0 a0) a1 0 a0).bind _=_
 rw [hL']
 rfl
def Hz {R:Type} (k:Kt R):=(Xn (Cx 3) (.exit 0) 2 k)
def Ll {R:Type}:Lt R Cx:=(Qj (pat:=Cx) 3 (fun d k=>(Pf d).bind (Hz k)) Tc)
theorem Kh:Bd Try.prog Kg:=Ea ⟨G0,trivial⟩
theorem Ph {R:Type}:Db Try.prog R 29 1 Cx Ll Hy:=
 Ix (cfg:=⟨Kg,1,29,Cx⟩) 3 [] (fun NX X d=>(Af (Af (Af A6))) (C5  NX X) d) (fun m d=>(Af (Af (Af A6))) (Ar m) d) (fun d=>(Af (Af (Af A6))) B0 d) Hz Kh trivial (fun f NX d=>by simp only [u4,Af,A6]; unfold C5; simp only [nb])
theorem Sg:Fv Try.prog 19 Kf:=
 D5 (pat:=Cx) [Hy] Ll Kh ⟨Ph,trivial⟩ Try.func19 (de:=fun x=>F5 x.1 x.2.1) (fun x r h=>Dc (Sf x.1 x.2.1) h) fun _=>by kernel_rfl
def D7 (a:Ko) (k:Int):Option (Int×(List Bi)):=(Py A5 a.1 k).bind fun r0 =>  some (r0.1,r0.2)
def Sh:M5:=⟨[.mu 41 A5,.rd tI],[some 1,none],[.rd tI],[none]⟩
def Ki:SD:=⟨Sh,fun x=>(D7 (x.1,()) x.2.1).bind fun r=>some ((r.1,()),(r.2,()))⟩
def F6 (a0:List Bi) (a1:Int):Option ((((Int)×Unit)×Ko)):=
 ((E4 a0 a1).bind fun val=>some ((val.1,()),val.2,())).bind fun val=>some val
theorem Si (a0:List Bi) (a1:Int) r (h:D7 (a0,()) a1=some r):F6 a0 a1=some ((r.1,()),(r.2,())):=by
 unfold D7 at h
 obtain ⟨⟨k0,x0⟩,e0,h⟩:=Al h
 have e0:Py A5 a0 a1=some (k0,x0):=e0
 cases h
 unfold F6
 have c0:E4 a0 a1=(some (k0,x0):Option (Int×(List Bi))):=e0
 rw [c0]
 simp only [Option.bind_some]
 try rfl
theorem Sj:Fv Try.prog 10 Ki:=
 D5 (pat:=Mk) [] Tc (Ea (l:=[(19,Kf)]) ⟨Sg,trivial⟩) trivial Try.func10 (de:=fun x=>F6 x.1 x.2.1) (fun x r h=>Dc (Si x.1 x.2.1) h) fun _=>by kernel_rfl
def Ef (a:List Aq) (k:Int):Option (Int×(List Aq)):=Py Ay a k
def Pi:M5:=⟨[.mu 43 Ay,.rd tI],[none,none],[.rd tI],[none]⟩
def H0:SD:=⟨Pi,fun x=>(Ef x.1 x.2.1).bind fun r=>some ((r.1,()),(r.2,()))⟩
def H1:Tb:=tb [(28,E3)]
def Cm:Nat→D9×(Nat→D9):=Pb [(3,⟨[],[(0,.lf (.row 0)),(1,.lf (.d tI)),(5,.lf (.d tI))],[.row 43 Ay]⟩,[(2,⟨[],[(1,.lf (.d tI))],[.row 43 Ay]⟩)])]
def Gi:Code:=(Bx (Ee Try.f20)).getD 0 .skip
def Bo (v1 v5:Int) (r0:List Aq):Nat:=((r0.length:Int) - v5).toNat + 1
def Cn {R:Type}  (NX:((Int)×(Int)×(List Aq)×Unit)→Option R) (X2:((Int)×(List Aq)×Unit)→Option R) (v1:Int) (v5:Int) (r0:List Aq):Option R:=
 bif decide (v5 < nI r0.length) then ((Az v1).bind fun val=>some ((val,()),())).bind fun val=>bif decide (0≤v5) then bif decide (v5 < nI r0.length) then bif decide (v5.toNat < r0.length) then ((Az (IntKind.i64.wrap (v1 + 1))).bind fun val=>some ((val,()),())).bind fun val_1=>bif decide (0≤v5) then bif decide (v5 < nI (r0.set v5.toNat (val.1.1,(r0.getD v5.toNat (Ad,Ad,false,())).2)).length) then bif decide (v5.toNat < (r0.set v5.toNat (val.1.1,(r0.getD v5.toNat (Ad,Ad,false,())).2)).length) then bif decide (0≤v5) then bif decide (v5 < nI ((r0.set v5.toNat (val.1.1,(r0.getD v5.toNat (Ad,Ad,false,())).2)).set v5.toNat (((r0.set v5.toNat (val.1.1,(r0.getD v5.toNat (Ad,Ad,false,())).2)).getD v5.toNat (Ad,Ad,false,())).1,val_1.1.1,((r0.set v5.toNat (val.1.1,(r0.getD v5.toNat (Ad,Ad,false,())).2)).getD v5.toNat (Ad,Ad,false,())).2.2)).length) then bif decide (v5.toNat < ((r0.set v5.toNat (val.1.1,(r0.getD v5.toNat (Ad,Ad,false,())).2)).set v5.toNat (((r0.set v5.toNat (val.1.1,(r0.getD v5.toNat (Ad,Ad,false,())).2)).getD v5.toNat (Ad,Ad,false,())).1,val_1.1.1,((r0.set v5.toNat (val.1.1,(r0.getD v5.toNat (Ad,Ad,false,())).2)).getD v5.toNat (Ad,Ad,false,())).2.2)).length) then NX (IntKind.i64.wrap (IntKind.i64.wrap (IntKind.i64.wrap (v1 + 1) + 1) + 1),IntKind.i64.wrap (v5 + 1),((r0.set v5.toNat (val.1.1,(r0.getD v5.toNat (Ad,Ad,false,())).2)).set v5.toNat (((r0.set v5.toNat (val.1.1,(r0.getD v5.toNat (Ad,Ad,false,())).2)).getD v5.toNat (Ad,Ad,false,())).1,val_1.1.1,((r0.set v5.toNat (val.1.1,(r0.getD v5.toNat (Ad,Ad,false,())).2)).getD v5.toNat (Ad,Ad,false,())).2.2)).set v5.toNat ((((r0.set v5.toNat (val.1.1,(r0.getD v5.toNat (Ad,Ad,false,())).2)).set v5.toNat (((r0.set v5.toNat (val.1.1,(r0.getD v5.toNat (Ad,Ad,false,())).2)).getD v5.toNat (Ad,Ad,false,())).1,val_1.1.1,((r0.set v5.toNat (val.1.1,(r0.getD v5.toNat (Ad,Ad,false,())).2)).getD v5.toNat (Ad,Ad,false,())).2.2)).getD v5.toNat (Ad,Ad,false,())).1,(((r0.set v5.toNat (val.1.1,(r0.getD v5.toNat (Ad,Ad,false,())).2)).set v5.toNat (((r0.set v5.toNat (val.1.1,(r0.getD v5.toNat (Ad,Ad,false,())).2)).getD v5.toNat (Ad,Ad,false,())).1,val_1.1.1,((r0.set v5.toNat (val.1.1,(r0.getD v5.toNat (Ad,Ad,false,())).2)).getD v5.toNat (Ad,Ad,false,())).2.2)).getD v5.toNat (Ad,Ad,false,())).2.1,(IntKind.i64.wrap (IntKind.i64.wrap (v1 + 1) + 1)).tmod 3==0,()),()) else none else none else none else none else none else none else none else none else none else X2 (v1,r0,())
def An:Nat→(Int)→(Int)→(List Aq) →  Option ((Int)×(List Aq)×Unit)
 | 0,_,_,_=>none
 | m + 1,v1,v5,r0=>Cn  (fun d=>An m d.1 d.2.1 d.2.2.1) (fun d=>some (d)) v1 v5 r0
def M6 (d:(Int)×(Int)×(List Aq)×Unit):Option ((Int)×(List Aq)×Unit):=(Af (Af (Af A6))) (An ((Af (Af (Af A6))) Bo d)) d
def E7 (a0:List Aq) (a1:Int):Option ((((Int)×Unit)×((List Aq)×Unit))):=
 ((fun d=>An (Bo d.1 d.2.1 d.2.2.1) d.1 d.2.1 d.2.2.1) (a1,0,a0,())).bind fun val=>some ((val.1,()),val.2)
theorem Pj (a0:List Aq) (a1:Int) r (h:Ef a0 a1=some r):E7 a0 a1=some ((r.1,()),(r.2,())):=by
 obtain ⟨g0,g1,hl0,rfl⟩:=Xw (t:=Ay) h
 have hl:a0.length≤1125899906842624:=hl0
 have hEE:(fun k:Int=>(show Aq from (mkE Ay k).1))=(fun k:Int=>(Gc (k),Gc (k + 1),decide ((k + 2) % 3=0),())):=funext fun k=>by
  show (Gc (k),Gc (k + 1),decide ((k + 1 + 1) % 3=0),())=(Gc (k),Gc (k + 1),decide ((k + 2) % 3=0),())
  try simp only [Int.add_assoc,Int.add_zero]
  try rfl
 show _=some ((a1 + (a0.length:Int) * 3,()),(gL (fun k:Int=>(show Aq from (mkE Ay k).1)) 3 a0.length a1,()))
 rw [hEE]
 unfold E7
 have hL:=Tf (fun k:Int=>(Gc (k),Gc (k + 1),decide ((k + 2) % 3=0),())) 3 (n:=a0.length) (K:=36028797018963000) (g:=fun m k i r=>An m k i r) (ok:=fun k r=>(k,r,())) (fun m i k r hi hr h1 hK=>by
  show An (m + 1) k i r=_
  have hK1:k + 3≤36028797018963000:=by
   have:(1:Int)≤(a0.length - i:Nat):=by omega
   omega
  rw [show An (m + 1) k i r=An (m + 1) (k + 0) i r from by rw [Int.add_zero]]
  have k0:k=k + 0:=(Int.add_zero k).symm
  have t0:Az (k + 0)=some (Gc (k + 0)):=if_pos (by omega)
  have t1:Az (k + 1)=some (Gc (k + 1)):=if_pos (by omega)
  have w0:IntKind.i64.wrap (k + 0 + 1)=k + 1:=by rw [D2 (by omega) (by omega)]; omega
  have w1:IntKind.i64.wrap (k + 1 + 1)=k + 2:=by rw [D2 (by omega) (by omega)]; omega
  have w2:IntKind.i64.wrap (k + 2 + 1)=k + 3:=by rw [D2 (by omega) (by omega)]; omega
  have u2:(Int.tmod (k + 2) 3==0)=decide ((k + 2) % 3=0):=Ahp (by omega)
  have hir:i < r.length:=by omega
  simp only [An,Cn]
  simp only [t0,t1,  Option.bind_some,w0,w1,w2,u2,  List.length_set,List.set_set,V1 hir,K6,Ag2 hir,wI (show i < 4611686018427387904 by omega),cond_true,Hl,Et hir]
  first | rfl | (rw [Int.add_zero]; rfl) | (simp only [Int.add_zero]; rfl)) (fun m k r hr=>by
  show An (m + 1) k a0.length r=_
  simp only [An,Cn,hr]
  rw [R1]
  rfl) (Bo a1 0 a0) 0 a1 a0 (by omega) (by simp [Bo]) rfl g0 (by omega)
 have hL':An (Bo a1 0 a0) a1 0 a0=_:=hL
 show (An (Bo a1 0 a0) a1 0 a0).bind _=_
 rw [hL']
 rfl
def Gj {R:Type} (k:Kt R):=(Xn (Cm 3) (.exit 0) 2 k)
def Jk {R:Type}:Lt R Cm:=(Qj (pat:=Cm) 3 (fun d k=>(M6 d).bind (Gj k)) Tc)
theorem H2:Bd Try.prog H1:=Ea ⟨G0,trivial⟩
theorem M7 {R:Type}:Db Try.prog R 38 1 Cm Jk Gi:=
 Ix (cfg:=⟨H1,1,38,Cm⟩) 3 [] (fun NX X d=>(Af (Af (Af A6))) (Cn  NX X) d) (fun m d=>(Af (Af (Af A6))) (An m) d) (fun d=>(Af (Af (Af A6))) Bo d) Gj H2 trivial (fun f NX d=>by simp only [u4,Af,A6]; unfold Cn; simp only [nb])
theorem Pk:Fv Try.prog 20 H0:=
 D5 (pat:=Cm) [Gi] Jk H2 ⟨M7,trivial⟩ Try.func20 (de:=fun x=>E7 x.1 x.2.1) (fun x r h=>Dc (Pj x.1 x.2.1) h) fun _=>by kernel_rfl
def D3 (a:List (List Aq)) (k:Int):Option (Int×List (List Aq)):=Qk Ay a k
def Oi:M5:=⟨[.nst ⟨39,43,false⟩ Ay,.rd tI],[none,none],[.rd tI],[none]⟩
def Hf:SD:=⟨Oi,fun x=>(D3 x.1 x.2.1).bind fun r=>some ((r.1,()),(r.2,()))⟩
def Hg:Tb:=tbN [(20,H0)]
def Ce:Nat→D9×(Nat→D9):=Pb [(3,⟨[.back 0],[(0,.lf (.row 0)),(1,.lf (.d tI)),(5,.lf (.d tI))],[.last ⟨39,43,false⟩ Ay 0]⟩,[(2,⟨[],[(1,.lf (.d tI))],[.last ⟨39,43,false⟩ Ay 0]⟩)])]
def F7:Code:=(Bx (Ee Try.f11)).getD 0 .skip
def Bl (v1 v5:Int) (r0:List (List Aq)) (c0:Bool):Nat:=(((r0.length + c0.toNat:Nat):Int) - v5).toNat + 1
def Ck {R:Type}  (NX:((Int)×(Int)×(List (List Aq))×(Bool)×Unit)→Option R) (X2:((Int)×(List (List Aq))×(Bool)×Unit)→Option R) (v1:Int) (v5:Int) (r0:List (List Aq)) (c0:Bool):Option R:=
 bif decide (v5 < nI (r0.length + c0.toNat)) then bif decide (0≤v5) then bif decide (v5 < nI (r0.length + c0.toNat)) then bif !c0 then bif decide (v5.toNat < r0.length) then ((Ef (r0.getD v5.toNat []) v1).bind fun val=>some ((val.1,()),val.2,())).bind fun val=>NX (val.1.1,IntKind.i64.wrap (v5 + 1),r0.set v5.toNat val.2.1,false,()) else none else none else none else none else X2 (v1,r0,c0,())
def Ao:Nat→(Int)→(Int)→(List (List Aq))→(Bool) →  Option ((Int)×(List (List Aq))×(Bool)×Unit)
 | 0,_,_,_,_=>none
 | m + 1,v1,v5,r0,c0=>Ck  (fun d=>Ao m d.1 d.2.1 d.2.2.1 d.2.2.2.1) (fun d=>some (d)) v1 v5 r0 c0
def L9 (d:(Int)×(Int)×(List (List Aq))×(Bool)×Unit):Option ((Int)×(List (List Aq))×(Bool)×Unit):=(u4 A6) (Ao ((u4 A6) Bl d)) d
def Ew (a0:List (List Aq)) (a1:Int):Option ((((Int)×Unit)×((List (List Aq))×Unit))):=
 ((fun d=>Ao (Bl d.1 d.2.1 d.2.2.1 d.2.2.2.1) d.1 d.2.1 d.2.2.1 d.2.2.2.1) (a1,0,a0,false,())).bind fun val=>Option.bind (bif val.2.2.1 then none else some (val.2.1,())) fun val_1=>some ((val.1,()),val_1)
theorem Oj (a0:List (List Aq)) (a1:Int) r (h:D3 a0 a1=some r):Ew a0 a1=some ((r.1,()),(r.2,())):=by
 obtain ⟨g0,g1,g2,g3,rfl⟩:=x4 (t:=Ay) h
 have g2:List.length (α:=List Aq) a0≤1099511627776:=g2
 have g3:D6 (α:=Aq) a0 * 3≤1099511627776:=g3
 unfold Ew
 have hL:=Ug (α:=Aq) (c:=3) (mk:=fun n k=>w5 Ay n k) (g:=fun m k i r=>Ao m k i r false) (ok:=fun k r=>(k,r,false,())) (fun m i k r x hi hr hx h1 h2 h3=>by
  show Ao (m + 1) k i r false=Ao m _ _ _ false
  have hm:Ef x k=some (k + (x.length:Int) * ((3:Nat):Int),w5 Ay x.length k):=w8 (t:=Ay) (xs:=x) h1 (by have:(0:Int)≤(x.length:Int) * ((3:Nat):Int):=Int.mul_nonneg (by omega) (by omega); omega) h3
  simp only [Ao,Ck,Bool.toNat_false,Nat.add_zero,Bool.not_false,cond_true,V1 hi,K6,Hl,Ag2 hi,hx,hm,Option.bind_some]
  rw [wI (by omega)]
  rfl) (fun m k r=>by
  show Ao (m + 1) k r.length r false=_
  simp only [Ao,Ck,Bool.toNat_false,Nat.add_zero,R1,cond_false]) (by decide) a0 [] (Bl a1 0 a0 false) a1 (by simp [Bl]) (by simp; omega) g0 (by omega)
 have hL':Ao (Bl a1 0 a0 false) a1 0 a0 false=_:=hL
 show (Ao (Bl a1 0 a0 false) a1 0 a0 false).bind _=_
 rw [hL']
 rfl
def F8 {R:Type} (k:Kt R):=(Xn (Ce 3) (.exit 0) 2 k)
def H3 {R:Type}:Lt R Ce:=(Qj (pat:=Ce) 3 (fun d k=>(L9 d).bind (F8 k)) Tc)
theorem Hh:Bd Try.prog Hg:=Aib ⟨Pk,trivial⟩
theorem Ma {R:Type}:Db Try.prog R 19 1 Ce H3 F7:=
 Ix (cfg:=⟨Hg,1,19,Ce⟩) 3 [] (fun NX X (d:(Int)×(Int)×(List (List Aq))×(Bool)×Unit)=>(u4 A6) (Ck  NX X) d) (fun m d=>(u4 A6) (Ao m) d) (fun d=>(u4 A6) Bl d) F8 Hh trivial (fun f NX (d:(Int)×(Int)×(List (List Aq))×(Bool)×Unit)=>by simp only [u4,Af,A6]; unfold Ck; simp only [nb])
theorem Ok:Fv Try.prog 11 Hf:=
 D5 (pat:=Ce) [F7] H3 Hh ⟨Ma,trivial⟩ Try.func11 (de:=fun x=>Ew x.1 x.2.1) (fun x r h=>Dc (Oj x.1 x.2.1) h) fun _=>by kernel_rfl
def Eg (a:List Aq) (k:Int):Option Int:=Xo Ay a k
def Pl:M5:=⟨[.rd (.sl Ay),.rd tI],[none,none],[.rd tI],[none]⟩
def H4:SD:=⟨Pl,fun x=>(Eg x.1 x.2.1).bind fun r=>some ((r,()),(()))⟩
def H5:Tb:=tb [(28,E3)]
def B1:Nat→D9×(Nat→D9):=Pb [(3,⟨[.sl 0 0 Ay],[(0,.lf (.d (.sl Ay))),(1,.lf (.d tI)),(5,.lf (.d tI))],[]⟩,[(2,⟨[],[(1,.lf (.d tI))],[]⟩),(1,⟨[],[(4,.lf (.d tI))],[]⟩)])]
def Gk:Code:=(Bx (Ee Try.f21)).getD 0 .skip
def Bp (v0:List Aq) (v1 v5:Int):Nat:=((v0.length:Int) - v5).toNat + 1
def Co {R:Type}  (NX:((List Aq)×(Int)×(Int)×Unit)→Option R) (X2:((Int)×Unit)→Option R) (X1:((Int)×Unit)→Option R) (v0:List Aq) (v1:Int) (v5:Int):Option R:=
 bif decide (v5 < nI v0.length) then bif decide (0≤v5) then bif decide (v5 < nI v0.length) then ((Az v1).bind fun val=>some ((val,()),())).bind fun val=>bif !ByteArray.toList (v0.getD v5.toNat (Ad,Ad,false,())).1==ByteArray.toList val.1.1 then X1 (-1,()) else bif decide (0≤v5) then bif decide (v5 < nI v0.length) then ((Az (IntKind.i64.wrap (v1 + 1))).bind fun val=>some ((val,()),())).bind fun val=>bif !ByteArray.toList (v0.getD v5.toNat (Ad,Ad,false,())).2.1==ByteArray.toList val.1.1 then X1 (-1,()) else bif decide (0≤v5) then bif decide (v5 < nI v0.length) then bif !(v0.getD v5.toNat (Ad,Ad,false,())).2.2.1==((IntKind.i64.wrap (IntKind.i64.wrap (v1 + 1) + 1)).tmod 3==0) then X1 (-1,()) else NX (v0,IntKind.i64.wrap (IntKind.i64.wrap (IntKind.i64.wrap (v1 + 1) + 1) + 1),IntKind.i64.wrap (v5 + 1),()) else none else none else none else none else none else none else X2 (v1,())
def Am:Nat→(List Aq)→(Int)→(Int) →  Option (((Int)×Unit) ⊕ ((Int)×Unit))
 | 0,_,_,_=>none
 | m + 1,v0,v1,v5=>Co  (fun d=>Am m d.1 d.2.1 d.2.2.1) (fun d=>some (.inl (d))) (fun d=>some (.inr (d))) v0 v1 v5
def M8 (d:(List Aq)×(Int)×(Int)×Unit):Option (((Int)×Unit) ⊕ ((Int)×Unit)):=(Af (Af (Af A6))) (Am ((Af (Af (Af A6))) Bp d)) d
def E8 (a0:List Aq) (a1:Int):Option ((((Int)×Unit)×(Unit))):=
 ((fun d=>Am (Bp d.1 d.2.1 d.2.2.1) d.1 d.2.1 d.2.2.1) (a0,a1,0,())).bind fun val=>Fj (fun d=>some (d,())) (fun d=>some (d,())) val
theorem Pm (a0:List Aq) (a1:Int) r (h:Eg a0 a1=some r):E8 a0 a1=some ((r,()),(())):=by
 obtain ⟨g0,g1,hl0,rfl⟩:=Aa8 (t:=Ay) h
 have hl:a0.length≤1125899906842624:=hl0
 have hEE:(fun k:Int=>(show Aq from (mkE Ay k).1))=(fun k:Int=>(Gc (k),Gc (k + 1),decide ((k + 2) % 3=0),())):=funext fun k=>by
  show (Gc (k),Gc (k + 1),decide ((k + 1 + 1) % 3=0),())=(Gc (k),Gc (k + 1),decide ((k + 2) % 3=0),())
  try simp only [Int.add_assoc,Int.add_zero]
  try rfl
 show _=some ((if Px (α:=Aq) (fun x y:Aq=>Lo Ay x y) a0 (gL (fun k:Int=>(show Aq from (mkE Ay k).1)) 3 a0.length a1)=true then a1 + (a0.length:Int) * 3 else -1,()),())
 rw [hEE]
 unfold E8
 have hL:=Z2 (xs:=a0) ((Ad),(Ad),false,()) (fun x y:Aq=>Lo Ay x y) (fun k:Int=>(Gc (k),Gc (k + 1),decide ((k + 2) % 3=0),())) 3 (K:=36028797018963000) (g:=fun m k i=>Am m a0 k i) (ok:=fun k=>.inl (k,())) (bad:=.inr (-1,())) (fun m i k hi h1 hK=>by
  show Am (m + 1) a0 k i=bif (fun x y:Aq=>Lo Ay x y) (List.getD (α:=Aq) a0 i ((Ad),(Ad),false,())) ((fun k:Int=>(Gc (k),Gc (k + 1),decide ((k + 2) % 3=0),())) k) then Am m a0 (k + 3) ((i + 1:Nat):Int) else _
  have hK1:k + 3≤36028797018963000:=by
   have:(1:Int)≤(a0.length - i:Nat):=by omega
   omega
  have hE:(fun x y:Aq=>Lo Ay x y) (List.getD (α:=Aq) a0 i ((Ad),(Ad),false,())) ((fun k:Int=>(Gc (k),Gc (k + 1),decide ((k + 2) % 3=0),())) k)=(Yz (List.getD (α:=Aq) a0 i ((Ad),(Ad),false,())).1 (Gc (k + 0))&&(Yz (List.getD (α:=Aq) a0 i ((Ad),(Ad),false,())).2.1 (Gc (k + 1))&&(eqO (List.getD (α:=Aq) a0 i ((Ad),(Ad),false,())).2.2.1 (decide ((k + 2) % 3=0))&&true))):=by
   try simp only [Int.add_zero]
   try rfl
  rw [hE,show Am (m + 1) a0 k i=Am (m + 1) a0 (k + 0) i from by rw [Int.add_zero]]
  have k0:k=k + 0:=(Int.add_zero k).symm
  have t0:Az (k + 0)=some (Gc (k + 0)):=if_pos (by omega)
  have t1:Az (k + 1)=some (Gc (k + 1)):=if_pos (by omega)
  have w0:IntKind.i64.wrap (k + 0 + 1)=k + 1:=by rw [D2 (by omega) (by omega)]; omega
  have w1:IntKind.i64.wrap (k + 1 + 1)=k + 2:=by rw [D2 (by omega) (by omega)]; omega
  have w2:IntKind.i64.wrap (k + 2 + 1)=k + 3:=by rw [D2 (by omega) (by omega)]; omega
  have u2:(Int.tmod (k + 2) 3==0)=decide ((k + 2) % 3=0):=Ahp (by omega)
  have v0:(!(ByteArray.toList (List.getD (α:=Aq) a0 i ((Ad),(Ad),false,())).1==ByteArray.toList (Gc (k + 0))))=!Yz (List.getD (α:=Aq) a0 i ((Ad),(Ad),false,())).1 (Gc (k + 0)):=rfl
  have v1:(!(ByteArray.toList (List.getD (α:=Aq) a0 i ((Ad),(Ad),false,())).2.1==ByteArray.toList (Gc (k + 1))))=!Yz (List.getD (α:=Aq) a0 i ((Ad),(Ad),false,())).2.1 (Gc (k + 1)):=rfl
  have v2:(!((List.getD (α:=Aq) a0 i ((Ad),(Ad),false,())).2.2.1==decide ((k + 2) % 3=0)))=!eqO (List.getD (α:=Aq) a0 i ((Ad),(Ad),false,())).2.2.1 (decide ((k + 2) % 3=0)):=rfl
  simp only [Am,Co]
  simp only [t0,t1,  Option.bind_some,w0,w1,w2,u2,  V1 hi,K6,wI (show i < 4611686018427387904 by omega),cond_true,Hl,v0,v1,v2]
  generalize Yz (List.getD (α:=Aq) a0 i ((Ad),(Ad),false,())).1 (Gc (k + 0))=p0
  generalize Yz (List.getD (α:=Aq) a0 i ((Ad),(Ad),false,())).2.1 (Gc (k + 1))=p1
  generalize eqO (List.getD (α:=Aq) a0 i ((Ad),(Ad),false,())).2.2.1 (decide ((k + 2) % 3=0))=p2
  cases p0<;>cases p1<;>cases p2<;>rfl) (fun m k=>by
  show Am (m + 1) a0 k a0.length=_
  simp only [Am,Co]
  rw [R1]
  rfl) (Bp a0 a1 0) 0 a1 (by omega) (by simp [Bp]) g0 (by omega)
 have hL':Am (Bp a0 a1 0) a0 a1 0=_:=hL
 show (Am (Bp a0 a1 0) a0 a1 0).bind _=some ((if Px (α:=Aq) (fun x y:Aq=>Lo Ay x y) a0 (gL (fun k:Int=>(Gc (k),Gc (k + 1),decide ((k + 2) % 3=0),())) 3 a0.length a1)=true then a1 + (a0.length:Int) * 3 else -1,()),())
 rw [hL',List.drop_zero]
 cases Px (α:=Aq) (fun x y:Aq=>Lo Ay x y) a0 (gL (fun k:Int=>(Gc (k),Gc (k + 1),decide ((k + 2) % 3=0),())) 3 a0.length a1)<;>rfl
def Gl {R:Type} (k:Kt R):=(Fj (Xn (B1 3) (.exit 0) 2 k) (Xn (B1 3) .ret 1 k))
def Jl {R:Type}:Lt R B1:=(Qj (pat:=B1) 3 (fun d k=>(M8 d).bind (Gl k)) Tc)
theorem H6:Bd Try.prog H5:=Ea ⟨G0,trivial⟩
theorem M9 {R:Type}:Db Try.prog R 44 0 B1 Jl Gk:=
 Ix (cfg:=⟨H5,0,44,B1⟩) 3 [] (fun NX X d=>(Af (Af (Af A6))) (Co  NX (fun e=>X (.inl (e))) (fun e=>X (.inr (e)))) d) (fun m d=>(Af (Af (Af A6))) (Am m) d) (fun d=>(Af (Af (Af A6))) Bp d) Gl H6 trivial (fun f NX d=>by simp only [u4,Af,A6]; unfold Co; simp only [nb])
theorem Pn:Fv Try.prog 21 H4:=
 D5 (pat:=B1) [Gk] Jl H6 ⟨M9,trivial⟩ Try.func21 (de:=fun x=>E8 x.1 x.2.1) (fun x r h=>Dc (Pm x.1 x.2.1) h) fun _=>by kernel_rfl
def C6 (a:List (List Aq)) (k:Int):Option Int:=Ql Ay a k
def Ol:M5:=⟨[.rd (.sl (.sl Ay)),.rd tI],[none,none],[.rd tI],[none]⟩
def Hi:SD:=⟨Ol,fun x=>(C6 x.1 x.2.1).bind fun r=>some ((r,()),(()))⟩
def Hj:Tb:=tb [(21,H4)]
def Bu:Nat→D9×(Nat→D9):=Pb [(3,⟨[.sl 0 0 (.sl Ay)],[(0,.lf (.d (.sl (.sl Ay)))),(1,.lf (.d tI)),(5,.lf (.d tI))],[]⟩,[(2,⟨[],[(1,.lf (.d tI))],[]⟩),(1,⟨[],[(4,.lf (.d tI))],[]⟩)])]
def F9:Code:=(Bx (Ee Try.f12)).getD 0 .skip
def Bm (v0:List (List Aq)) (v1 v5:Int):Nat:=((v0.length:Int) - v5).toNat + 1
def Cl {R:Type}  (NX:((List (List Aq))×(Int)×(Int)×Unit)→Option R) (X2:((Int)×Unit)→Option R) (X1:((Int)×Unit)→Option R) (v0:List (List Aq)) (v1:Int) (v5:Int):Option R:=
 bif decide (v5 < nI v0.length) then bif decide (0≤v5) then bif decide (v5 < nI v0.length) then ((Eg (v0.getD v5.toNat []) v1).bind fun val=>some ((val,()),())).bind fun val=>bif decide (val.1.1 < 0) then X1 (-1,()) else NX (v0,val.1.1,IntKind.i64.wrap (v5 + 1),()) else none else none else X2 (v1,())
def Ap:Nat→(List (List Aq))→(Int)→(Int) →  Option (((Int)×Unit) ⊕ ((Int)×Unit))
 | 0,_,_,_=>none
 | m + 1,v0,v1,v5=>Cl  (fun d=>Ap m d.1 d.2.1 d.2.2.1) (fun d=>some (.inl (d))) (fun d=>some (.inr (d))) v0 v1 v5
def Mb (d:(List (List Aq))×(Int)×(Int)×Unit):Option (((Int)×Unit) ⊕ ((Int)×Unit)):=(Af (Af (Af A6))) (Ap ((Af (Af (Af A6))) Bm d)) d
def Ey (a0:List (List Aq)) (a1:Int):Option ((((Int)×Unit)×(Unit))):=
 ((fun d=>Ap (Bm d.1 d.2.1 d.2.2.1) d.1 d.2.1 d.2.2.1) (a0,a1,0,())).bind fun val=>Fj (fun d=>some (d,())) (fun d=>some (d,())) val
theorem Om (a0:List (List Aq)) (a1:Int) r (h:C6 a0 a1=some r):Ey a0 a1=some ((r,()),(())):=by
 obtain ⟨g0,g1,g2,g3,rfl⟩:=x5 (t:=Ay) h
 have g2:List.length (α:=List Aq) a0≤1099511627776:=g2
 have g3:D6 (α:=Aq) a0 * 3≤1099511627776:=g3
 unfold Ey
 have hL:=Uh (α:=Aq) (c:=3) (mk:=fun n k=>w5 Ay n k) (fun x y=>eqR Ay x y) (ys:=a0) (g:=fun m k i=>Ap m a0 k i) (ok:=fun k=>.inl (k,())) (bad:=.inr (-1,())) (by omega) (fun m i k x hi hx h1 h2 h3=>by
  show Ap (m + 1) a0 k i=bif _ then Ap m a0 _ _ else _
  have hp:(0:Int)≤(x.length:Int) * ((3:Nat):Int):=Int.mul_nonneg (by omega) (by omega)
  have hm:Eg x k=some (if eqR Ay x (w5 Ay x.length k)=true then k + (x.length:Int) * ((3:Nat):Int) else -1):=w9 (t:=Ay) (xs:=x) h1 (by omega) h3
  simp only [Ap,Cl,cond_true,V1 hi,K6,Hl,hx,hm,Option.bind_some]
  rw [wI (by omega)]
  cases eqR Ay x (w5 Ay x.length k) with
  | false=>rfl
  | true=>
   simp only [if_true,cond_true]
   rw [Na (show ¬ (k + (x.length:Int) * ((3:Nat):Int) < 0) by omega)]
   rfl) (fun m k=>by
  show Ap (m + 1) a0 k (a0.length:Nat)=_
  simp only [Ap,Cl,R1,cond_false]) (by decide) a0 [] (Bm a0 a1 0) a1 rfl (by simp [Bm]) g0 (by omega)
 have hL':Ap (Bm a0 a1 0) a0 a1 0=_:=hL
 show (Ap (Bm a0 a1 0) a0 a1 0).bind _=_
 rw [hL']
 show Option.bind (some (bif Px (α:=List Aq) (fun x y=>eqR Ay x y) a0 (Em (α:=Aq) (fun n k=>w5 Ay n k) 3 a0 a1) then _ else _)) _=some ((if Px (α:=List Aq) (fun x y=>eqR Ay x y) a0 (Em (α:=Aq) (fun n k=>w5 Ay n k) 3 a0 a1)=true then _ else _,()),())
 generalize Px (α:=List Aq) (fun x y=>eqR Ay x y) a0 (Em (α:=Aq) (fun n k=>w5 Ay n k) 3 a0 a1)=B
 cases B<;>rfl
def Ga {R:Type} (k:Kt R):=(Fj (Xn (Bu 3) (.exit 0) 2 k) (Xn (Bu 3) .ret 1 k))
def H7 {R:Type}:Lt R Bu:=(Qj (pat:=Bu) 3 (fun d k=>(Mb d).bind (Ga k)) Tc)
theorem Hk:Bd Try.prog Hj:=Ea ⟨Pn,trivial⟩
theorem Mc {R:Type}:Db Try.prog R 21 0 Bu H7 F9:=
 Ix (cfg:=⟨Hj,0,21,Bu⟩) 3 [] (fun NX X d=>(Af (Af (Af A6))) (Cl  NX (fun e=>X (.inl (e))) (fun e=>X (.inr (e)))) d) (fun m d=>(Af (Af (Af A6))) (Ap m) d) (fun d=>(Af (Af (Af A6))) Bm d) Ga Hk trivial (fun f NX d=>by simp only [u4,Af,A6]; unfold Cl; simp only [nb])
theorem On:Fv Try.prog 12 Hi:=
 D5 (pat:=Bu) [F9] H7 Hk ⟨Mc,trivial⟩ Try.func12 (de:=fun x=>Ey x.1 x.2.1) (fun x r h=>Dc (Om x.1 x.2.1) h) fun _=>by kernel_rfl
def Lm:M5:=⟨[.rd L7],[some 1],[.rd .bool],[none]⟩
def Cy (a0:Ko):Option ((((Bool)×Unit)×(Unit))):=
 ((Fz a0 1048576).bind fun val=>some ((val,()),())).bind fun val=>bif decide (val.1.1 < 0) then some ((true,()),()) else ((Dm a0).bind fun val=>some (val,())).bind fun val=>((Dm a0).bind fun val=>some (val,())).bind fun val_1=>((Cw (Be val_1.1) (C0 val.1)).bind fun val=>some ((val,()),())).bind fun val_2=>bif !val_2.1.1 then some ((false,()),()) else ((Dm a0).bind fun val=>some (val,())).bind fun val_3=>((F4 val_1.1 val_3.1).bind fun val=>some ((val,()),())).bind fun val_4=>bif !val_4.1.1 then some ((false,()),()) else ((D7 val_1.1 1).bind fun val=>some ((val.1,()),val.2,())).bind fun val_5=>bif decide (val_5.1.1 < 0) then some ((false,()),()) else ((Cw (Be val_1.1) (C0 val.1)).bind fun val=>some ((val,()),())).bind fun val_6=>bif !val_6.1.1 then some ((false,()),()) else ((D3 (Be val_1.1) 1).bind fun val=>some ((val.1,()),val.2,())).bind fun val_7=>((C6 val_7.2.1 1).bind fun val=>some ((val,()),())).bind fun val_8=>bif decide (val_8.1.1 < 0) then some ((false,()),()) else bif val_8.1.1 != val_7.1.1 then some ((false,()),()) else ((Dm a0).bind fun val=>some (val,())).bind fun val_9=>((Cw (Be val_9.1) (C0 val.1)).bind fun val=>some ((val,()),())).bind fun val=>bif !val.1.1 then some ((false,()),()) else ((C6 val_7.2.1 1).bind fun val=>some ((val,()),())).bind fun val=>bif decide (val.1.1 < 0) then some ((false,()),()) else bif val.1.1 != val_7.1.1 then some ((false,()),()) else some ((true,()),())
def Fk:SD:=⟨Lm,fun x=>Cy x.1⟩
theorem l6 (s:Ko):(∀ b∈Hv s,∀ c∈b,N2 c=true)∧D6 (Hv s)≤100:=by
 have tot:∀ L:List (List Aq),D6 L=L.flatten.length:=fun L=>by
  induction L with
  | nil=>rfl
  | cons x r ih=>simp [D6,ih]
 cases hv:Cf s with
 | false=>
  have:Hv s=[]:=by unfold Hv; rw [hv]; rfl
  rw [this]
  exact ⟨fun b hb=>absurd hb List.not_mem_nil,by decide⟩
 | true=>
  obtain ⟨h1,h2⟩:=Abd hv
  refine ⟨fun b hb c hc=>?_,?_⟩
  ·have:c∈(Hv s).flatten:=List.mem_flatten.2 ⟨b,hb,hc⟩
   rw [h1] at this
   obtain ⟨p,hp,rfl⟩:=List.mem_map.1 this
   exact Adr (Adq hv p hp)
  ·rw [tot,h1,List.length_map]
   exact Fy hv
theorem Ads (s:Ko):Ml (.sl (.sl Ay)) (Hv s)=true:=by
 have hl:=a8 s
 have ht:=(l6 s).2
 have all:∀ L:List (List Aq),D6 L≤100→∀ b∈L,b.length≤100:=fun L=>by
  induction L with
  | nil=>intro _ b hb; cases hb
  | cons x r ih=>
   intro h b hb
   simp only [D6] at h
   rcases List.mem_cons.1 hb with rfl | hb
   ·omega
   ·exact ih (by omega) b hb
 show (decide (List.length (Hv s)≤1073741824)&&List.all (Hv s) (Ml (.sl Ay)))=true
 rw [C2 (by omega),Bool.true_and]
 refine List.all_eq_true.2 fun b hb=>?_
 show (decide (List.length b≤1073741824)&&List.all b (Ml Ay))=true
 rw [C2 (by have:=all _ ht b hb; omega),Bool.true_and]
 refine List.all_eq_true.2 fun c hc=>?_
 obtain ⟨h1,h2,h3⟩:=Z5 ((l6 s).1 b hb c hc)
 show (decide (c.1.size≤1073741824)&&(decide (c.2.1.size≤1073741824)&&true))=true
 rw [C2 (by omega),C2 (by omega)]
 rfl
theorem Po (a0:Ko) (h0:Ry L7 a0):Cy a0=some ((true,()),()):=by
 have hf0:=V4 h0
 unfold Cy
 rcases Afv (l0:=1048576) hf0 (by first | decide | assumption) (by first | decide | assumption) (m:=Fz a0 1048576) rfl with e0 | ⟨l0,e0,g0,k0,s0,q0⟩
 ·simp only [e0,Option.bind_some,Ai3,cond_true,cond_false]
 ·skip
  have t0:Dm a0=some a0:=Afr (t:=L7) (x:=a0) s0
  have u0:F4 a0 a0=some true:=x1 (t:=L7) (x:=a0) hf0
  have gw:C0 a0=Be a0:=rfl
  have ggl:(Be a0).length≤101:=a8 _
  have ggt:D6 (Be a0)≤100:=(l6 _).2
  have gg0:Ml (.sl (.sl Ay)) (Be a0)=true:=Ads _
  simp only [e0,q0,t0,u0,Option.bind_some,cond_false,gw]
  generalize Be a0=g at *
  have v0:Cw g g=some true:=x1 (t:=(.sl (.sl Ay))) (x:=g) (O6 gg0)
  have Lx0:=s0
  simp only [Ek,Ml,Bool.and_eq_true,decide_eq_true_eq,and_true,true_and] at Lx0
  obtain ⟨kx0_0,yx0_0,mx0_0,bx0_0,cx0_0,dx0_0⟩:∃ (k2:Int) (ys:List Bi),Py A5 a0.1 1=(some (k2,ys):Option (Int×List Bi))∧1≤k2∧k2≤1 + 1073741824 * ((2:Nat):Int)∧Xo A5 ys 1=some k2:=Ai4 (t:=A5) (xs:=a0.1) (k:=1) 2 rfl (by omega) (by omega) (by omega)
  have mkx0:D7 a0 1=some (kx0_0,yx0_0):=bi_ mx0_0 (rfl)
  have nkx:decide (kx0_0 < 0)=false:=Na (by omega)
  obtain ⟨kz0_0,yz0_0,mz0_0,bz0_0,cz0_0,dz0_0⟩:∃ (k2:Int) (ys:List (List Aq)),Qk Ay g 1=(some (k2,ys):Option (Int×List (List Aq)))∧1≤k2∧k2≤1 + 1073741824 * ((3:Nat):Int)∧Ql Ay ys 1=some k2:=Ag4 (t:=Ay) (xs:=g) (k:=1) 3 rfl (by omega) (by omega) (Nat.le_trans ggl (by decide)) (Nat.le_trans ggt (by decide)) (by decide)
  have mkz0:D3 g 1=some (kz0_0,yz0_0):=mz0_0
  have nnz0_0:¬ kz0_0 < 0:=by omega
  have hdz0:C6 yz0_0 1=some kz0_0:=dz0_0
  have nkz:decide (kz0_0 < 0)=false:=Na (by omega)
  simp only [e0,q0,t0,u0,v0,mkx0,nkx,mkz0,hdz0,nkz,Option.bind_some,cond_false,cond_true,beq_self_eq_true,bne_self_eq_false,Bool.not_true,Bool.or_self,Bool.false_or]
theorem Ln:Fv Try.prog 3 Fk:=
 D5 (pat:=Mk) [] Tc (Ea (l:=[(4,Mq),(5,K9),(6,Mw),(7,Lc),(8,Je),(9,M3),(10,Ki),(11,Hf),(12,Hi)]) ⟨Uu,Tk,U3,Tn,Q0,Vc,Sj,Ok,On,trivial⟩) trivial Try.func3 (de:=fun x=>Cy x.1) (fun x r h=>h) fun _=>by kernel_rfl
end Go.Proofs.Ytjokieaajjmoeaa.V
end
