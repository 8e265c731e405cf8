/- The evaluator, and that a body does what it tells. No condition. -/
import Derived.Test.YtjokieaajjmoeaaGreatRInl
import Derived.ChangeArms
import Derived.Carry
import Derived.OpenShut
import Derived.ChangeMaps5
import Derived.SizedLaws
import Derived.ChangeOld
import Derived.Shelf.Strings.BuilderK
import Derived.Shelf.Strings.Repeat
import Derived.KernelRfl
import Derived.Test.YtjokieaajjmoeaaGreatProg
import Derived.Shelf.SlSortFuncK.WholeK
import Derived.Shelf.GgSortFunc.Tiny
import Derived.Shelf.Lay
import Derived.Deep.QuietTactic
noncomputable section
set_option linter.unusedVariables false
set_option linter.unusedSimpArgs false
namespace Go.Proofs.YtjokieaajjmoeaaGreat.R
open Go Go.RowKit
section
inductive Ex where
 | normal
 | exit (id:Nat)
 | ret
def Ex.to:Ex→Exit
 | .normal=>.normal
 | .exit id=>.exit id
 | .ret=>.ret
structure Cfg where
 sigs:Tb
 np:Nat
 n:Nat
 pat:Nat→Da×(Nat→Da)
def chk {R:Type}:List Bool→Option R→Option R
 | [],k=>k
 | c::r,k=>bif c then chk r k else none
def Ayn {R:Type} (sg:E5) (den:Xo sg.ps→Option (Xo sg.rs×BxD sg.ps)) (s:St) (nid:Nat) (vs:List Vl) (k:AV→St→Option R):Option R:=
 match shL sg.psh vs with
 | none=>none
 | some ls=>
  let sF:=s.frz (Hs s sg.ps ls)
  let sA:=if I8 sg.rs&&O0 sg.ps then s else sF
  match Mm sF sg.ps ls with
  | none=>none
  | some q=>bif Vm (A3 q.2) then (bif Tg sA nid (Is sg.rs) then (den q.1).bind fun r=>
   match shV sg.rsh (A23 sg.rs r.1 nid) with
   | none=>none
   | some vs'=>k (Bbf vs') ⟨sA.cell,Jb sg.rs r.1 nid (M2 sg.ps r.2 q.2 sA.res)⟩
   else none) else none
def St.lit (s:St) (x:Operand) (b:Bool):St:=match x with
 | .tmp t=>s.setCell t (.vl (.lf (.c (.bool b))))
 | _=>s
def Bju {R:Type} (s:St) (c x y:Operand) (k:AV→St→Option R):Option R:=match s.conc c with
 | some (.bool t)=>match A6e s x y with
  | some (p,q)=>k (.vl (.lf (.c (.bool (bif t then p else q))))) s
  | none=>bif t then k (s.op x) (s.lit c true) else k (s.op y) (s.lit c false)
 | _=>none
def Bdn {R:Type} (P:Program) (T:Tb) (s:St) (nid:Nat) (o:Oper) (k:AV→St→Option R):Option R:=match Rc o with
 | some (f,xs)=>match g6 s xs with
  | some vs=>match T.sd f with
   | some sd=>Ayn sd.sg sd.den s nid vs k
   | none=>match T.inl f with
    | some fn=>match Bii P T fn vs s nid with
     | some (cs,av,s')=>chk cs (k av s')
     | none=>none
    | none=>match Bge T s f vs with
     | some (cs,av,s')=>chk cs (k av s')
     | none=>none
  | none=>none
 | none=>match Aoj s o with
  | some (f,xs,ls)=>match g6 s xs with
   | some vs=>match T.sd f with
    | some sd=>Ayn sd.sg sd.den s nid (vs++Bif ls) k
    | none=>none
   | none=>none
  | none=>match o.op with
   | .pick c x y=>Bju s c x y k
   | _=>match X0 T.nest P s nid o with
    | some (cs,av,s')=>chk cs (k av s')
    | none=>none
def Bb2 {R:Type} (P:Program) (sigs:Tb) (s:St) (nid:Nat) (o:Oper) (k:AV→St→Option R):Option R:=
 let sl:=Ez o
 let ids:=X5 s o
 bif Tg s nid Av2 then (bif Xd o s ids then Bdn P sigs.dr (s.view sl ids) nid o fun av v=>
  bif A3a o || Aom (Re av) (ids++Q5 nid) then (bif Xd o v (ids++Q5 nid) then k av v else none) else none
 else none) else none
def A6u {R:Type} (s:St) (ops:Array Oper) (o:Oper) (go:Bool→St→Option R):Option R:=match o.guard with
 | none=>go true s
 | some (j,want)=>match ops[j]? with
  | some oj=>match oj.dst with
   | some d=>match s.cell d with
    | .vl (.lf (.c (.bool b)))=>bif b then go want (s.lit (.tmp d) true) else go (!want) (s.lit (.tmp d) false)
    | .tp []=>go false s
    | _=>none
   | none=>none
  | none=>none
def Aab {R:Type} (P:Program) (cfg:Cfg) (ops:Array Oper):List Oper→Nat→St→(St→Option R)→Option R
 | [],_,s,k=>k s
 | o::r,nid,s,k=>A6u s ops o fun run s=>bif run then Bdn P cfg.sigs s nid o (fun av s'=>Aab P cfg ops r (nid + Av2) (s'.put cfg.n o.dst av) k)
  else Aab P cfg ops r (nid + Av2) (s.put cfg.n o.dst (.tp [])) k
def Al9 {R:Type} (P:Program) (cfg:Cfg) (ops:Array Oper):List Oper→Nat→St→List Uv→(St→Option R)→Option R
 | [],_,s,tr,k=>bif Bep P ops 0 [] [] tr.reverse then k s else none
 | o::r,nid,s,tr,k=>A6u s ops o fun run s=>bif run then Bb2 P cfg.sigs s nid o (fun av v=>Al9 P cfg ops r (nid + Av2) ((Agm cfg.sigs s nid o av v).app P cfg.n s) (Agm cfg.sigs s nid o av v::tr) k)
  else Al9 P cfg ops r (nid + Av2) ((Aor nid o).app P cfg.n s) (Aor nid o::tr) k
def Ga:Code→Nat
 | .region id _ _=>id + 1
 | .seq a b=>if Ga a=0 then Ga b else Ga a
 | .cond _ a b=>if Ga a=0 then Ga b else Ga a
 | .block _ a=>Ga a
 | .loop a=>Ga a
 | _=>0
abbrev Kt (R:Type):=Ex→St→Nat→Option R
def Ex.no:Ex→Nat
 | .normal=>0
 | .ret=>1
 | .exit id=>id + 2
abbrev Lt (R:Type) (pat:Nat→Da×(Nat→Da)):=(key:Nat)→(pat key).1.D→Kt R→Option R
def Biu {R:Type} (np:Nat) (px:Nat→Da) (k:Kt R):Kt R:=fun e s nid=>match (px e.no).mtch np s nid with
 | some d=>k e ((px e.no).st d) (px e.no).nid
 | none=>none
def Bb3 {R:Type} (np:Nat) (p:Da×(Nat→Da)) (nx:p.1.D→Kt R→Option R) (k:Kt R):Kt R:=fun e s nid=>match e with
 | .normal=>match p.1.mtch np s nid with
  | some d=>nx d k
  | none=>none
 | .exit id=>Biu np p.2 k (.exit id) s nid
 | .ret=>Biu np p.2 k .ret s nid
def Aux {R:Type} (np:Nat) (p:Da×(Nat→Da)) (bd:St→Nat→Kt R→Option R):Nat→p.1.D→Kt R→Option R
 | 0,_,_=>none
 | m + 1,d,k=>bd (p.1.st d) p.1.nid (Bb3 np p (Aux np p bd m) k)
def Az7 {R:Type} (P:Program) (cfg:Cfg) (q:A48) (nid:Nat) (s:St) (k:St→Option R):Option R:=match Bjt P cfg.sigs cfg.n s nid q with
 | some (cs,s')=>chk cs (k s')
 | none=>none
def ev {R:Type} (P:Program) (cfg:Cfg) (L:Lt R cfg.pat):Code→St→Nat→Kt R→Option R
 | .skip,s,nid,k=>k .normal s nid
 | .region _ ops draw,s,nid,k=>match Xp ops.toList with
  | some q=>bif draw then none else Aab P cfg ops q.pre nid s fun s'=>Az7 P cfg q nid s' (fun s'=>k .normal s' (nid + Av2 * ops.size))
  | none=>bif draw then Al9 P cfg ops ops.toList nid s [] (fun s'=>k .normal s' (nid + Av2 * ops.size)) else Aab P cfg ops ops.toList nid s (fun s'=>k .normal s' (nid + Av2 * ops.size))
 | .seq a b,s,nid,k=>ev P cfg L a s nid fun e s' nid'=>match e with
  | .normal=>ev P cfg L b s' nid' k
  | .exit id=>k (.exit id) s' nid'
  | .ret=>k .ret s' nid'
 | .cond c a b,s,nid,k=>match s.conc c with
  | some (.bool t)=>bif t then ev P cfg L a (s.lit c true) nid k else ev P cfg L b (s.lit c false) nid k
  | _=>none
 | .block id c,s,nid,k=>ev P cfg L c s nid fun e s' nid'=>match e with
  | .normal=>k .normal s' nid'
  | .exit id'=>if id'=id then k .normal s' nid' else k (.exit id') s' nid'
  | .ret=>k .ret s' nid'
 | .loop c,s,nid,k=>match (cfg.pat (Ga c)).1.mtch cfg.np s nid with
  | some d=>L (Ga c) d k
  | none=>none
 | .exit id,s,nid,k=>k (.exit id) s nid
 | .ret,s,nid,k=>k .ret s nid
 | _,_,_,_=>none
def At:Code→List Code
 | .loop c=>[c]
 | .seq a b=>At a++At b
 | .cond _ a b=>At a++At b
 | .block _ a=>At a
 | _=>[]
section
variable {R:Type} {P:Program} {n B:Nat} {Iq:List Nat} {s:St} {g:Gh} {a:Act} {w:World} {r:R}
theorem Ago:∀ {cs:List Bool} {k:Option R},chk cs k=some r→Vn cs=true∧k=some r
 | [],k,h=>⟨rfl,h⟩
 | c::cs,k,h=>by
  simp only [chk] at h
  cases c with
  | false=>cases h
  | true=>
   obtain ⟨h1,h2⟩:=Ago h
   exact ⟨by simp [Vn,h1],h2⟩
theorem Aox {sg:E5} {den:Xo sg.ps→Option (Xo sg.rs×BxD sg.ps)} {nid:Nat} {vs:List Vl} {k:AV→St→Option R} (h:Ayn sg den s nid vs k=some r):
  ∃ av s',Aly sg den s nid vs=some (av,s')∧k av s'=some r:=by
 unfold Ayn at h
 unfold Aly
 split at h
 ·cases h
 ·rename_i ls e1
  dsimp only at h
  split at h
  ·cases h
  ·rename_i q e2
   cases h1:Vm (A3 q.2) with
   | false=>rw [h1] at h; cases h
   | true=>
    rw [h1] at h
    simp only [cond_true] at h
    cases h2:Tg (if (I8 sg.rs&&O0 sg.ps)=true then s else s.frz (Hs s sg.ps ls)) nid (Is sg.rs) with
    | false=>rw [h2] at h; cases h
    | true=>
     rw [h2] at h
     simp only [cond_true] at h
     obtain ⟨d,e3,h⟩:=A6 h
     split at h
     ·cases h
     ·rename_i vs' e4
      refine ⟨_,_,?_,h⟩
      rw [e1]
      simp only [Option.bind_some]
      rw [e2]
      simp only [Option.bind_some,h1,h2,if_true,e3,e4]
theorem Aa1 {x:Operand} {b:Bool} (h:s.conc x=some (.bool b)):s.lit x b=s:=by
 cases x with
 | tmp t=>
  refine St.ext' (fun i=>?_) (fun _=>rfl)
  show K3 s.cell t _ i=s.cell i
  by_cases q:i=t
  ·subst q
   rw [Al]
   unfold St.conc at h
   split at h
   ·rename_i hv
    cases h
    exact hv.symm
   ·cases h
  ·rw [As _ _ q]
 | const v=>rfl
 | global _=>rfl
 | func _=>rfl
theorem Ama {T:Tb} {nid:Nat} {o:Oper} {k:AV→St→Option R} (h:Bdn P T s nid o k=some r):∃ av s',X3 P T s nid o=some (av,s')∧k av s'=some r:=by
 unfold Bdn at h
 unfold X3
 split at h
 ·rename_i f xs hc
  split at h
  ·rename_i vs hvs
   split at h
   ·rename_i sd hsd
    obtain ⟨av,s',e1,e2⟩:=Aox h
    exact ⟨av,s',by simp only [hc,hvs,hsd,e1],e2⟩
   ·rename_i hsd
    split at h
    ·rename_i fn hfn
     split at h
     ·rename_i cs av s' hi
      obtain ⟨h1,h2⟩:=Ago h
      exact ⟨av,s',by simp only [hc,hvs,hsd,hfn]; rw [hi]; simp [Nl,h1],h2⟩
     ·cases h
    ·rename_i hfn
     split at h
     ·rename_i cs av s' hn
      obtain ⟨h1,h2⟩:=Ago h
      exact ⟨av,s',by simp only [hc,hvs,hsd,hfn]; rw [hn]; simp [Nl,h1],h2⟩
     ·cases h
  ·cases h
 ·rename_i hc
  split at h
  ·rename_i f xs ls hcl
   split at h
   ·rename_i vs hvs
    split at h
    ·rename_i sd hsd
     obtain ⟨av,s',e1,e2⟩:=Aox h
     exact ⟨av,s',by simp only [hc,hcl,hvs,hsd,e1],e2⟩
    ·cases h
   ·cases h
  ·rename_i hcl
   split at h
   ·rename_i c x y hop
    have hst:X0 T.nest P s nid o=av0 s (Agh s c x y):=(Qs fun _=>by unfold Aks; rw [hop]).trans (by unfold S6; rw [hop])
    unfold Bju at h
    rw [hst]
    split at h
    ·rename_i t ht
     split at h
     ·rename_i p q hb
      refine ⟨_,_,?_,h⟩
      have:Agh s c x y=some (.vl (.lf (.c (.bool (bif t then p else q))))):=by unfold Agh; rw [ht]; simp only [hb]
      rw [this]
      simp [hc,hcl,av0,Nl,Vn]
     ·rename_i hb
      have:Agh s c x y=some (bif t then s.op x else s.op y):=by unfold Agh; rw [ht]; simp only [hb]
      cases t with
      | true=>
       rw [Aa1 ht] at h
       exact ⟨s.op x,s,by rw [this]; simp [hc,hcl,av0,Nl,Vn],h⟩
      | false=>
       rw [Aa1 ht] at h
       exact ⟨s.op y,s,by rw [this]; simp [hc,hcl,av0,Nl,Vn],h⟩
    ·cases h
   ·split at h
    ·rename_i cs av s' hst
     obtain ⟨h1,h2⟩:=Ago h
     exact ⟨av,s',by simp only [hc,hcl]; rw [hst]; simp [Nl,h1],h2⟩
    ·cases h
theorem Tj {c:Bool} {x:Option R} (h:(bif c then x else none)=some r):c=true∧x=some r:=by
 cases c with
 | false=>cases h
 | true=>exact ⟨rfl,h⟩
theorem A86 {sigs:Tb} {nid:Nat} {o:Oper} {k:AV→St→Option R} (h:Bb2 P sigs s nid o k=some r):∃ av v,Akt P sigs s nid o=some (av,v)∧k av v=some r:=by
 unfold Bb2 at h
 dsimp only at h
 obtain ⟨h1,h⟩:=Tj h
 obtain ⟨h2,h⟩:=Tj h
 obtain ⟨av,v,e1,h⟩:=Ama h
 obtain ⟨h3,h⟩:=Tj h
 obtain ⟨h4,h⟩:=Tj h
 refine ⟨av,v,?_,h⟩
 unfold Akt
 dsimp only
 rw [if_pos h1,if_pos h2,e1]
 simp only [Option.bind_some,h3,h4,if_true]
theorem Agp {ops:Array Oper} {o:Oper} {go:Bool→St→Option R} (h:A6u s ops o go=some r):∃ run,On s ops o=some run∧go run s=some r:=by
 unfold A6u at h
 unfold On
 split at h
 ·rename_i hg
  exact ⟨true,by rw [hg],h⟩
 ·rename_i j want hg
  rw [hg]
  simp only
  unfold Bbq
  split at h
  ·rename_i oj hoj
   rw [hoj]
   simp only
   split at h
   ·rename_i d hd
    rw [hd]
    simp only
    split at h
    ·rename_i b hb
     rw [hb]
     refine ⟨bif b then want else !want,rfl,?_⟩
     have hc:s.conc (.tmp d)=some (.bool b):=by unfold St.conc; show (match s.cell d with | .vl (.lf (.c v))=>some v | _=>none)=_; rw [hb]
     cases b with
     | true=>rw [Aa1 hc] at h; exact h
     | false=>rw [Aa1 hc] at h; exact h
    ·rename_i hb
     rw [hb]
     exact ⟨false,rfl,h⟩
    ·cases h
   ·cases h
  ·cases h
structure Gx (np B:Nat) (Iq:List Nat) (s0:St) (g0:Gh) (w0:World) (s:St) (g:Gh) (w:World):Prop where
 kp:Kp B Iq w0 w
 av:g.av=g0.av
 pin:∀ id,id < np→(s0.res id).live=true→s.res id≠.unborn∧(∀ T ls,s.res id=.box T ls→(∃ T' ls',s0.res id=.box T' ls')∧g.blk id=g0.blk id)∧
  (∀ e,∀ t:Ty,∀ xs:List t.D,s.res id=.row e t xs→(∃ e',∃ xs':List t.D,s0.res id=.row e' t xs')∧g.blk id=g0.blk id∧g.hdr id=g0.hdr id)∧
  ((s.res id).nst=true→(s0.res id).nst=true∧g.blk id=g0.blk id∧g.hdr id=g0.hdr id)
section
variable {np:Nat} {s0:St} {g0:Gh} {w0:World}
theorem Gx.step {s':St} {g':Gh} {w':World} (h:Gx np B Iq s0 g0 w0 s g w) (k:Go B Iq s g w s' g' w'):Gx np B Iq s0 g0 w0 s' g' w':=by
 refine ⟨h.kp.trans k.kp,k.av.trans h.av,fun id hid hl=>?_⟩
 obtain ⟨h1,h2,h3,h4⟩:=h.pin id hid hl
 have r:=k.ref id
 unfold Az at r
 rcases r with r | r
 ·exact ⟨by rw [r]; simp,fun T ls q=>(by rw [r] at q; cases q),fun e t xs q=>(by rw [r] at q; cases q),fun q=>by rw [r] at q; cases q⟩
 ·cases hs:s.res id with
  | unborn=>exact absurd hs h1
  | dead=>rw [hs] at r; exact r.elim
  | box T ls=>
   rw [hs] at r
   obtain ⟨T',ls',e1,e2⟩:=r
   refine ⟨by rw [e1]; simp,fun _ _ _=>?_,fun e t xs q=>(by rw [e1] at q; cases q),fun q=>by rw [e1] at q; cases q⟩
   obtain ⟨q1,q2⟩:=h2 T ls hs
   exact ⟨q1,e2.trans q2⟩
  | row e t xs=>
   rw [hs] at r
   rcases r with ⟨e',xs',e1,_,e2,e3⟩ | ⟨t',xs',e1,_⟩
   ·refine ⟨by rw [e1]; simp,fun T ls q=>(by rw [e1] at q; cases q),fun e2' t2 xs2 q=>?_,fun q=>by rw [e1] at q; cases q⟩
    rw [e1] at q
    cases q
    obtain ⟨q1,q2,q3⟩:=h3 e t xs hs
    exact ⟨q1,e3.trans q2,e2.trans q3⟩
   ·exact ⟨by rw [e1]; simp,fun T ls q=>(by rw [e1] at q; cases q),fun e t xs q=>(by rw [e1] at q; cases q),fun q=>by rw [e1] at q; cases q⟩
  | frozen t xs=>
   rw [hs] at r
   obtain ⟨t',xs',e1,_⟩:=r
   exact ⟨by rw [e1]; simp,fun T ls q=>(by rw [e1] at q; cases q),fun e t xs q=>(by rw [e1] at q; cases q),fun q=>by rw [e1] at q; cases q⟩
  | last e t xs c j=>
   rw [hs] at r
   rcases r with ⟨e1,e2,e3⟩ | ⟨t',xs',e1,_⟩
   ·obtain ⟨q1,q2,q3⟩:=h4 (by rw [hs]; rfl)
    rcases Jw.nlen_some e1 with ⟨_,_,_,_,_,e1,_⟩ | ⟨_,_,_,_,_,e1,_⟩<;>exact ⟨by rw [e1]; simp,fun T ls q=>(by rw [e1] at q; cases q),fun e t xs q=>(by rw [e1] at q; cases q),fun _=>⟨q1,e3.trans q2,e2.trans q3⟩⟩
   ·exact ⟨by rw [e1]; simp,fun T ls q=>(by rw [e1] at q; cases q),fun e t xs q=>(by rw [e1] at q; cases q),fun q=>by rw [e1] at q; cases q⟩
  | mid e t xs i j=>
   rw [hs] at r
   rcases r with ⟨e1,e2,e3⟩ | ⟨t',xs',e1,_⟩
   ·obtain ⟨q1,q2,q3⟩:=h4 (by rw [hs]; rfl)
    rcases Jw.nlen_some e1 with ⟨_,_,_,_,_,e1,_⟩ | ⟨_,_,_,_,_,e1,_⟩<;>exact ⟨by rw [e1]; simp,fun T ls q=>(by rw [e1] at q; cases q),fun e t xs q=>(by rw [e1] at q; cases q),fun _=>⟨q1,e3.trans q2,e2.trans q3⟩⟩
   ·exact ⟨by rw [e1]; simp,fun T ls q=>(by rw [e1] at q; cases q),fun e t xs q=>(by rw [e1] at q; cases q),fun q=>by rw [e1] at q; cases q⟩
  | map t xs=>
   rw [hs] at r
   obtain ⟨_,_,e1,_⟩:=r
   exact ⟨by rw [e1]; simp,fun T ls q=>(by rw [e1] at q; cases q),fun e t xs q=>(by rw [e1] at q; cases q),fun q=>by rw [e1] at q; cases q⟩
  | iter t xs seen cur=>
   rw [hs] at r
   obtain ⟨_,_,_,_,e1,_⟩:=r
   exact ⟨by rw [e1]; simp,fun T ls q=>(by rw [e1] at q; cases q),fun e t xs q=>(by rw [e1] at q; cases q),fun q=>by rw [e1] at q; cases q⟩
theorem Gx.canon {s':St} {g':Gh} (h:Gx np B Iq s0 g0 w0 s g w) (ha:g'.av=g.av) (hp:∀ id,id < np→(s'.res id=.unborn→s.res id=.unborn)∧(∀ T ls,s'.res id=.box T ls→(∃ T' ls',s.res id=.box T' ls')∧g'.blk id=g.blk id)∧(∀ e,∀ t:Ty,∀ xs:List t.D,s'.res id=.row e t xs→(∃ e',∃ xs':List t.D,s.res id=.row e' t xs')∧g'.blk id=g.blk id∧g'.hdr id=g.hdr id)∧((s'.res id).nst=true→(s.res id).nst=true∧g'.blk id=g.blk id∧g'.hdr id=g.hdr id)):Gx np B Iq s0 g0 w0 s' g' w:=by
 refine ⟨h.kp,ha.trans h.av,fun id hid hl=>?_⟩
 obtain ⟨h1,h2,h3,h4⟩:=h.pin id hid hl
 obtain ⟨k1,k2,k3,k4⟩:=hp id hid
 refine ⟨fun q=>h1 (k1 q),fun T ls q=>?_,fun e t xs q=>?_,fun q=>?_⟩
 ·obtain ⟨⟨T',ls',e1⟩,e2⟩:=k2 T ls q
  obtain ⟨e3,e4⟩:=h2 T' ls' e1
  exact ⟨e3,e2.trans e4⟩
 ·obtain ⟨⟨e',xs',e1⟩,e2,e2'⟩:=k3 e t xs q
  obtain ⟨e3,e4,e5⟩:=h3 e' t xs' e1
  exact ⟨e3,e2.trans e4,e2'.trans e5⟩
 ·obtain ⟨e1,e2,e3⟩:=k4 q
  obtain ⟨q1,q2,q3⟩:=h4 e1
  exact ⟨q1,e2.trans q2,e3.trans q3⟩
theorem Aoy {nid:Nat} {p:Da} {d:p.D} (h:Bp n B Iq s g a w) (hx:Gx np B Iq s0 g0 w0 s g w) (e:p.mtch np s nid=some d):∃ g',Bp n B Iq (p.st d) g' a w∧Gx np B Iq s0 g0 w0 (p.st d) g' w:=by
 obtain ⟨s1,g1,g',k1,k2,k3,k4⟩:=Bit h e
 exact ⟨g',k2,(hx.step k1).canon k3 k4⟩
theorem Bdo {np':Nat} (hnp:np'=np) {px:Nat→Da} {k:Kt R} {Q:Exit→Act→World→Prop} (hk:∀ e s' nid' g' a' w',k e s' nid'=some r→Bp n B Iq s' g' a' w'→Gx np B Iq s0 g0 w0 s' g' w'→Q e.to a' w') {e:Ex} {nid:Nat}
  (he:Biu np' px k e s nid=some r) (h:Bp n B Iq s g a w) (hx:Gx np B Iq s0 g0 w0 s g w):Q e.to a w:=by
 subst hnp
 unfold Biu at he
 split at he
 ·rename_i d hd
  obtain ⟨g',k1,k2⟩:=Aoy h hx hd
  exact hk e _ _ g' a w he k1 k2
 ·cases he
theorem Ajm {cfg:Cfg} (hs:Ax P cfg.sigs) (hn:cfg.n=n) {ops:Array Oper} {k:St→Option R} {Q:Exit→Act→World→Prop}
  (hk:∀ s' g' a' w',k s'=some r→Bp n B Iq s' g' a' w'→Gx np B Iq s0 g0 w0 s' g' w'→Q .normal a' w'):
  ∀ {l:List Oper} {nid:Nat} {s:St} {g:Gh} {a:Act} {w:World},Aab P cfg ops l nid s k=some r→Bp n B Iq s g a w→Gx np B Iq s0 g0 w0 s g w→wpList P ops Q l a w
 | [],nid,s,g,a,w,e,h,hx=>hk s g a w e h hx
 | o::l,nid,s,g,a,w,e,h,hx=>by
  simp only [Aab] at e
  obtain ⟨run,e1,e⟩:=Agp e
  unfold wpList
  rw [Qt h e1]
  cases run with
  | true=>
   simp only [cond_true] at e
   obtain ⟨av,s',e2,e⟩:=Ama e
   rw [if_pos rfl]
   left
   refine Agk hs h e2 _ Q fun v g' w' k1 k2 k3=>?_
   obtain ⟨r1,r2⟩:=Ps k2 o.dst k3
   rw [hn] at e
   exact Ajm hs hn hk e r1 ((hx.step k1).step r2)
  | false=>
   simp only [cond_false] at e
   rw [if_neg (by simp)]
   obtain ⟨r1,r2⟩:=Ps (av:=.tp []) (v:=undef) h o.dst ⟨#[],rfl,rfl,fun j v hv=>by simp at hv⟩
   rw [hn] at e
   exact Ajm hs hn hk e r1 (hx.step r2)
theorem Amb {cfg:Cfg} (hs:Ax P cfg.sigs) (hn:cfg.n=n) {ops:Array Oper} {k:St→Option R} {Q:Exit→Act→World→Prop} {rest:List Oper}
  (hk:∀ s' g' a' w',k s'=some r→Bp n B Iq s' g' a' w'→Gx np B Iq s0 g0 w0 s' g' w'→wpList P ops Q rest a' w'):
  ∀ {l:List Oper} {nid:Nat} {s:St} {g:Gh} {a:Act} {w:World},Aab P cfg ops l nid s k=some r→Bp n B Iq s g a w→Gx np B Iq s0 g0 w0 s g w→wpList P ops Q (l++rest) a w
 | [],nid,s,g,a,w,e,h,hx=>hk s g a w e h hx
 | o::l,nid,s,g,a,w,e,h,hx=>by
  simp only [Aab] at e
  obtain ⟨run,e1,e⟩:=Agp e
  show wpList P ops Q (o::(l++rest)) a w
  unfold wpList
  rw [Qt h e1]
  cases run with
  | true=>
   simp only [cond_true] at e
   obtain ⟨av,s',e2,e⟩:=Ama e
   rw [if_pos rfl]
   left
   refine Agk hs h e2 _ Q fun v g' w' k1 k2 k3=>?_
   obtain ⟨r1,r2⟩:=Ps k2 o.dst k3
   rw [hn] at e
   exact Amb hs hn hk e r1 ((hx.step k1).step r2)
  | false=>
   simp only [cond_false] at e
   rw [if_neg (by simp)]
   obtain ⟨r1,r2⟩:=Ps (av:=.tp []) (v:=undef) h o.dst ⟨#[],rfl,rfl,fun j v hv=>by simp at hv⟩
   rw [hn] at e
   exact Amb hs hn hk e r1 (hx.step r2)
theorem Az8 {l:List Oper} {q:A48} (h:Xp l=some q):l=q.pre++[q.o2,q.o3,q.o4]:=by
 unfold Xp at h
 split at h
 ·split at h<;>cases h
  rfl
 ·cases h
theorem A3f {l:List Oper} {q:A48} (h:Xp l=some q):Aym q.o2 q.o3 q.o4=some (q.V,q.z,q.d2,q.d3,q.fs):=by
 unfold Xp at h
 split at h
 ·split at h<;>cases h
  rename_i h
  exact h
 ·cases h
theorem Bb4 {av:AV} {fc:FuncId} {b:Nat} (h:Bg2 av=some (fc,b)):av=.fn fc [.ptr b 0]:=by
 unfold Bg2 at h
 split at h<;>cases h
 rfl
theorem A3g {BT:TypeId} {v:Jw} {r:Nat} (h:Az6 BT v=some r):v=.box BT [.row r]:=by
 unfold Az6 at h
 split at h
 ·split at h<;>cases h
  rename_i hT
  rw [hT]
 ·cases h
theorem A6v {l:Option Lf} {r:Nat} (h:A6s l=some r):l=some (.row r):=by
 unfold A6s at h
 split at h<;>cases h
 rfl
theorem Biv {cfg:Cfg} (hs:Ax P cfg.sigs) (hn:cfg.n=n) {ops:Array Oper} {q:A48} (hq:Xp ops.toList=some q) {nid:Nat} {k:St→Option R} {Q:Exit→Act→World→Prop}
  (hk:∀ s' g' a' w',k s'=some r→Bp n B Iq s' g' a' w'→Gx np B Iq s0 g0 w0 s' g' w'→Q .normal a' w') (e:Az7 P cfg q nid s k=some r) (h:Bp n B Iq s g a w) (hx:Gx np B Iq s0 g0 w0 s g w):wpList P ops Q [q.o2,q.o3,q.o4] a w:=by
 obtain ⟨t1,t2,t3,t4,t5,t6,t7,t8⟩:=A6t (A3f hq)
 unfold Az7 at e
 split at e
 ·rename_i cs s' es
  obtain ⟨hcs,ek⟩:=Ago e
  clear e
  unfold Bjt at es
  split at es
  ·rename_i fs fc BT U ety hsrt
   split at es
   ·rename_i r0 hr0
    have hr0:=A6v hr0
    split at es
    ·rename_i av s3 hst
     split at es
     ·rename_i fc' b hav
      have hav:=Bb4 hav
      subst hav
      split at es
      ·rename_i r' xs hbx hrw
       split at es
       rotate_left
       ·cases es
       rename_i c0
       split at es
       ·rename_i c1
        split at es
        ·rename_i c2
         split at es
         ·rename_i c3
          split at es
          ·rename_i c4
           split at es
           ·rename_i c5
            split at es
            ·rename_i c6
             cases es
             subst c1 c2 c3 c4
             rw [hn] at c5 c6 hst ek
             have hbx:=A3g hbx
             have hrw:=Bb0 hrw
             obtain ⟨hcal,hok⟩:=hs.srt _ _ _ _ _ hsrt
             have hnd:E6 xs=true∧xs.length≤1000:=by simpa [Vn] using hcs
             obtain ⟨hz,_⟩:=C7 h hr0
             unfold wpList
             rw [Qt h (r:=true) (by unfold On; rw [t3]),if_pos rfl]
             left
             have hrun:(execOp a.eval q.o2).run P w=.ok (.value (.iface q.V (a.eval q.z))) w:=by
              unfold A4q at c0
              split at c0
              ·rename_i hU
               simp [execOp,t1,Instr.makeInterface,run_underlying hU,Result.andThen]
              ·cases c0
             unfold Oper.wp
             rw [hrun,Oper.upon_value]
             obtain ⟨a1,a2⟩:=Ps (av:=.dead) (v:=.iface q.V (a.eval q.z)) h q.o2.dst trivial
             unfold wpList
             rw [Qt a1 (r:=true) (by unfold On; rw [t5]),if_pos rfl]
             left
             refine Agk hs a1 hst _ Q fun v g3 w3 k1 k2 k3=>?_
             obtain ⟨b1,b2⟩:=Ps k2 q.o3.dst k3
             unfold wpList
             rw [Qt b1 (r:=true) (by unfold On; rw [t7]),if_pos rfl]
             left
             obtain ⟨caps,hv,hL⟩:=k3
             obtain ⟨p0,hcaps⟩:∃ p0,caps=#[p0]:=by
              have:=hL.length
              match caps,this with
              | ⟨[x]⟩,_=>exact ⟨x,rfl⟩
             subst hcaps
             have hp:=hL.1.1
             simp only [Cx,hbx] at hp
             obtain ⟨bb,hbb,hp⟩:=hp
             have hp:p0=.pointer (some ⟨bb,0,none⟩):=hp
             subst hp
             have hbx2:(s3.put n q.o3.dst (.fn fc' [.ptr b 0])).res b=.box BT [.row r']:=by rw [Ayf]; exact hbx
             have hrw2:(s3.put n q.o3.dst (.fn fc' [.ptr b 0])).res r'=.row ety prT xs:=by rw [Ayf]; exact hrw
             have hcall:=Bev b1 hok hbb hbx2 hrw2 hnd.1 hnd.2
             have hhd:a.eval q.z=g3.hdr r':=by
              have e1:Cx s3 g3 w3 (.row r') (a.eval q.z):=by
               have:=Cx.step (a2.trans k1).S (a2.trans k1).ref hz
               exact this
              simp only [Cx,hrw] at e1
              exact e1
             have hsz:a.tmps.size=n:=h.size
             have hd2:((a.put q.o2.dst (.iface q.V (a.eval q.z))).put q.o3.dst v).eval (.tmp q.d2)=.iface q.V (a.eval q.z):=by
              show ((a.put q.o2.dst (.iface q.V (a.eval q.z))).put q.o3.dst v).tmps.getD q.d2 undef=_
              rw [t2,t4,Bb1 t8,Bdm (by rw [hsz]; exact c5)]
             have hd3:((a.put q.o2.dst (.iface q.V (a.eval q.z))).put q.o3.dst v).eval (.tmp q.d3)=v:=by
              show ((a.put q.o2.dst (.iface q.V (a.eval q.z))).put q.o3.dst v).tmps.getD q.d3 undef=_
              rw [t4,Bdm (by rw [k2.size]; exact c6)]
             have hco:Ajj P q.fs (([.tmp q.d2,.tmp q.d3]:List Operand).map ((a.put q.o2.dst (.iface q.V (a.eval q.z))).put q.o3.dst v).eval).toArray n B Iq (s3.put n q.o3.dst (.fn fc' [.ptr b 0])) g3 ((a.put q.o2.dst (.iface q.V (a.eval q.z))).put q.o3.dst v) w3 (.tp [])
              ((s3.put n q.o3.dst (.fn fc' [.ptr b 0])).setRes r' (.row ety prT (Rd xs))):=by
              have hd2':=hd2.trans (congrArg (Value.iface q.V) hhd)
              have hd3':=hd3.trans hv
              simp only [List.map_cons,List.map_nil,hd2',hd3']
              exact hcall
             refine O1.call t6 hcal hco _ Q fun v4 g4 w4 j1 j2 j3=>?_
             obtain ⟨d1,d2⟩:=Ps j2 q.o4.dst j3
             unfold wpList
             exact hk _ _ _ _ ek d1 (((((hx.step a2).step k1).step b2).step j1).step d2)
            ·cases es
           ·cases es
          ·cases es
         ·cases es
        ·cases es
       ·cases es
      ·cases es
     ·cases es
    ·cases es
   ·cases es
  ·cases es
 ·cases e
theorem Agq {cfg:Cfg} {ops:Array Oper} {k:St→Option R}:∀ {l:List Oper} {nid:Nat} {s:St} {acc:List Uv},Al9 P cfg ops l nid s acc k=some r→
  ∃ tr,tr.map (·.o)=l∧Al7 P cfg.sigs ops cfg.n tr s∧Bep P ops 0 [] [] (acc.reverse++tr)=true∧∀ i,k (mix P cfg.n (fun _=>true) i tr s)=some r
 | [],nid,s,acc,e=>by
  simp only [Al9] at e
  obtain ⟨h1,h2⟩:=Tj e
  exact ⟨[],rfl,trivial,by simpa using h1,fun i=>h2⟩
 | o::l,nid,s,acc,e=>by
  simp only [Al9] at e
  obtain ⟨run,e1,e⟩:=Agp e
  cases run with
  | true=>
   simp only [cond_true] at e
   obtain ⟨av,v,e2,e⟩:=A86 e
   obtain ⟨tr,h1,h2,h3,h4⟩:=Agq e
   refine ⟨Agm cfg.sigs s nid o av v::tr,by simp [h1,Agm],⟨.inl ⟨e1,av,v,e2,rfl⟩,h2⟩,by simpa using h3,fun i=>?_⟩
   simp only [mix,if_true]
   exact h4 (i + 1)
  | false=>
   simp only [cond_false] at e
   obtain ⟨tr,h1,h2,h3,h4⟩:=Agq e
   refine ⟨Aor nid o::tr,by simp [h1,Aor],⟨.inr ⟨e1,rfl⟩,h2⟩,by simpa using h3,fun i=>?_⟩
   simp only [mix,if_true]
   exact h4 (i + 1)
theorem Bg3 (listed:Array Bool):∀ k,unl listed k≤k
 | 0=>Nat.le_refl _
 | k + 1=>by
  simp only [unl]
  have:=Bg3 listed k
  split<;>omega
theorem A87 {D:Nat→Bool}:∀ {tr:List Uv} {i:Nat} {s:St},(∀ j,D j=false)→mix P n D i tr s=s
 | [],_,_,_=>rfl
 | e::r,i,s,h=>by
  simp only [mix,h,Bool.false_eq_true,if_false]
  exact A87 h
theorem A88 (h:Bp n B Iq s g a w):Bp n B Iq s g a { w with drawn:=w.drawn + 1 }∧Go B Iq s g w s g { w with drawn:=w.drawn + 1 }:=by
 have hS:∀ b,Eg s g b→b < w.heap.size→Eg s g b∧({ w with drawn:=w.drawn + 1 }:World).heap[b]? = w.heap[b]? := fun b hb _=>⟨hb,rfl⟩
 have hI:∀ id,Az s g s g id:=fun _=>Az.same rfl rfl rfl
 exact ⟨h.step h.size h.defers (Nat.le_refl _) hS hI (fun _=>.inl ⟨rfl,rfl⟩) (fun _=>.inl ⟨rfl,rfl,rfl,fun _ _=>rfl⟩) h.inj h.lt rfl (NK.of h (w':={ w with drawn:=w.drawn + 1 }) (Nat.le_refl _) (fun _ _ h1 h2=>⟨h1,h2⟩) (fun _ _=>rfl) (fun _ _ _=>rfl) fun id b q=>.inl ⟨id,q⟩),⟨⟨rfl,rfl,rfl,Nat.le_refl _,fun _ _ _=>rfl⟩,hS,hI,rfl⟩⟩
theorem Bew {cfg:Cfg} (hm:P.follows .mixedOrders=true) (hs:Ax P cfg.sigs) (hn:cfg.n=n) {id:Nat} {ops:Array Oper} {draw:Bool} {nid:Nat} {k:St→Option R} {Q:Exit→Act→World→Prop}
  (hk:∀ s' g' a' w',k s'=some r→Bp n B Iq s' g' a' w'→Gx np B Iq s0 g0 w0 s' g' w'→Q .normal a' w') (h:Bp n B Iq s g a w) (hx:Gx np B Iq s0 g0 w0 s g w)
  (e:(bif draw then Al9 P cfg ops ops.toList nid s [] k else Aab P cfg ops ops.toList nid s k)=some r):(Code.region id ops draw).wp P Q a w:=by
 cases draw with
 | false=>
  simp only [cond_false] at e
  exact wp_region_list (Ajm hs hn hk e h hx)
 | true=>
  simp only [cond_true] at e
  obtain ⟨tr,h1,h2,h3,h4⟩:=Agq e
  rw [hn] at h2 h4
  obtain ⟨d1,d2⟩:=A88 h
  refine wp_region_any hm ?_
  have hD:∀ j,(Array.replicate ops.size false).getD j false=false:=fun j=>by
   simp [Array.getD_eq_getD_getElem?,Array.getElem?_replicate]
   split<;>rfl
  have hmix:mix P n (fun i=>(Array.replicate ops.size false).getD i false) 0 tr s=s:=A87 hD
  refine Bke hs h1 h2 (by simpa using h3) (g0:=g) (w0:={ w with drawn:=w.drawn + 1 }) (fun a' g' w' q1 q2=>hk _ g' a' w' (h4 0) q2 ((hx.step d2).step q1)) ops.size _ a g _ (by simp) (Bg3 _ _) (fun j f q1 q2=>?_) ?_ ?_
  ·have q2':(Array.replicate ops.size false).getD j false=true:=q2
   rw [hD] at q2'
   cases q2'
  ·rw [hmix]; exact Go.refl _ _ _ _ _
  ·rw [hmix]; exact d1
theorem Aeg {p:Nat→Prop} (h:∃ m,p m):∃ m,p m∧∀ m',p m'→m≤m':=by
 obtain ⟨m,hm⟩:=h
 induction m using Nat.strongRecOn with
 | _ m ih=>
  by_cases q:∃ j,j < m∧p j
  ·obtain ⟨j,q1,q2⟩:=q
   exact ih j q1 q2
  ·refine ⟨m,hm,fun j hj=>?_⟩
   rcases Nat.lt_or_ge j m with q2 | q2
   ·exact absurd ⟨j,q2,hj⟩ q
   ·exact q2
theorem Biw {np':Nat} {p:Da×(Nat→Da)} {c:Code} {bd:St→Nat→Kt R→Option R} {Q:Exit→Act→World→Prop} {k:Kt R} (hnp:np'=np)
  (hbd:∀ {s:St} {g:Gh} {a:Act} {w:World} {nid:Nat} {k:Kt R} {Q:Exit→Act→World→Prop},(∀ e s' nid' g' a' w',k e s' nid'=some r→Bp n B Iq s' g' a' w'→Gx np B Iq s0 g0 w0 s' g' w'→Q e.to a' w')→
   bd s nid k=some r→Bp n B Iq s g a w→Gx np B Iq s0 g0 w0 s g w→c.wp P Q a w)
  (hk:∀ e s' nid' g' a' w',k e s' nid'=some r→Bp n B Iq s' g' a' w'→Gx np B Iq s0 g0 w0 s' g' w'→Q e.to a' w') {m:Nat} {d:p.1.D}
  (e:Aux np' p bd m d k=some r) (h:Bp n B Iq (p.1.st d) g a w) (hx:Gx np B Iq s0 g0 w0 (p.1.st d) g w):(Code.loop c).wp P Q a w:=by
 let J:Nat→Act→World→Prop:=fun m a w=>∃ d g,Aux np' p bd m d k=some r∧Bp n B Iq (p.1.st d) g a w∧Gx np B Iq s0 g0 w0 (p.1.st d) g w
 classical
 refine wp_loop (fun a w=>∃ m,J m a w) (fun a w=>if hj:∃ m,J m a w then Classical.choose (Aeg hj) else 0) ⟨m,d,g,e,h,hx⟩ fun a w hj=>?_
 have hmu:(if hj:∃ m,J m a w then Classical.choose (Aeg hj) else 0)=Classical.choose (Aeg hj):=dif_pos hj
 have hspec:=(Classical.choose_spec (Aeg hj)).1
 generalize hm:Classical.choose (Aeg hj)=m at hspec
 obtain ⟨d,g,e,h,hx⟩:=hspec
 cases m with
 | zero=>simp [Aux] at e
 | succ m=>
  simp only [Aux] at e
  refine hbd (fun e s' nid' g' a' w' q h' hx'=>?_) e h hx
  unfold Bb3 at q
  cases e with
  | normal=>
   simp only at q
   split at q
   ·rename_i d' hd
    subst hnp
    obtain ⟨g2,k1,k2⟩:=Aoy h' hx' hd
    have hJ:J m a' w':=⟨d',g2,q,k1,k2⟩
    refine ⟨⟨m,hJ⟩,?_⟩
    rw [hmu,hm,dif_pos ⟨m,hJ⟩]
    have:=(Classical.choose_spec (Aeg (⟨m,hJ⟩:∃ m,J m a' w'))).2 m hJ
    omega
   ·cases q
  | exit id=>exact Bdo hnp hk q h' hx'
  | ret=>exact Bdo hnp hk q h' hx'
def A4 (P:Program) (R:Type) (n np:Nat) (pat:Nat→Da×(Nat→Da)) (L:Lt R pat) (c:Code):Prop:=
 ∀ (r:R) (B:Nat) (Iq:List Nat) (s0:St) (g0:Gh) (w0:World) (d:(pat (Ga c)).1.D) (g:Gh) (a:Act) (w:World) (k:Kt R) (Q:Exit→Act→World→Prop),
  (∀ e s' nid' g' a' w',k e s' nid'=some r→Bp n B Iq s' g' a' w'→Gx np B Iq s0 g0 w0 s' g' w'→Q e.to a' w')→L (Ga c) d k=some r→Bp n B Iq ((pat (Ga c)).1.st d) g a w→Gx np B Iq s0 g0 w0 ((pat (Ga c)).1.st d) g w→(Code.loop c).wp P Q a w
theorem Bg4 {cfg:Cfg} {L:Lt R cfg.pat} (hm:P.follows .mixedOrders=true) (hs:Ax P cfg.sigs) (hn:cfg.n=n) (hnp:cfg.np=np):∀ (c:Code),(∀ c'∈At c,A4 P R n np cfg.pat L c')→∀ {s:St} {g:Gh} {a:Act} {w:World} {nid:Nat} {k:Kt R} {Q:Exit→Act→World→Prop},
  (∀ e s' nid' g' a' w',k e s' nid'=some r→Bp n B Iq s' g' a' w'→Gx np B Iq s0 g0 w0 s' g' w'→Q e.to a' w')→
  ev P cfg L c s nid k=some r→Bp n B Iq s g a w→Gx np B Iq s0 g0 w0 s g w→c.wp P Q a w:=by
 intro c
 induction c with
 | skip=>intro hL s g a w nid k Q hk e h hx; exact wp_skip (hk .normal s nid g a w e h hx)
 | region id ops draw=>
  intro hL s g a w nid k Q hk e h hx
  simp only [ev] at e
  split at e
  ·rename_i q hq
   cases draw with
   | true=>cases e
   | false=>
    simp only [cond_false] at e
    refine wp_region_list ?_
    rw [Az8 hq]
    exact Amb hs hn (fun s' g' a' w' e' h' hx'=>Biv hs hn hq (fun s2 g2 a2 w2 q2 h2 hx2=>hk .normal s2 _ g2 a2 w2 q2 h2 hx2) e' h' hx') e h hx
  ·exact Bew hm hs hn (fun s' g' a' w' q h' hx'=>hk .normal s' _ g' a' w' q h' hx') h hx e
 | seq x y ihx ihy=>
  intro hL s g a w nid k Q hk e h hx
  simp only [ev] at e
  refine wp_seq (ihx (fun c' hc'=>hL c' (List.mem_append_left _ hc')) (fun e' s' nid' g' a' w' q h' hx'=>?_) e h hx)
  cases e' with
  | normal=>exact ihy (fun c' hc'=>hL c' (List.mem_append_right _ hc')) hk q h' hx'
  | exit id=>exact hk (.exit id) s' nid' g' a' w' q h' hx'
  | ret=>exact hk .ret s' nid' g' a' w' q h' hx'
 | cond c x y ihx ihy=>
  intro hL s g a w nid k Q hk e h hx
  simp only [ev] at e
  split at e
  ·rename_i t ht
   refine wp_cond (t:=t) (Dv h ht).1 ?_
   cases t with
   | true=>rw [Aa1 ht] at e; exact ihx (fun c' hc'=>hL c' (List.mem_append_left _ hc')) hk e h hx
   | false=>rw [Aa1 ht] at e; exact ihy (fun c' hc'=>hL c' (List.mem_append_right _ hc')) hk e h hx
  ·cases e
 | block id c ih=>
  intro hL s g a w nid k Q hk e h hx
  simp only [ev] at e
  refine wp_block (ih hL (fun e' s' nid' g' a' w' q h' hx'=>?_) e h hx)
  cases e' with
  | normal=>exact hk .normal s' nid' g' a' w' q h' hx'
  | exit id'=>
   simp only at q
   show Exit.inBlock id Q (.exit id') a' w'
   unfold Exit.inBlock
   split at q
   ·rename_i hid
    simp only [hid,if_true]
    exact hk .normal s' nid' g' a' w' q h' hx'
   ·rename_i hid
    simp only [hid,if_false]
    exact hk (.exit id') s' nid' g' a' w' q h' hx'
  | ret=>exact hk .ret s' nid' g' a' w' q h' hx'
 | loop c ih=>
  intro hL s g a w nid k Q hk e h hx
  simp only [ev] at e
  split at e
  ·rename_i d hd
   subst hnp
   obtain ⟨g2,k1,k2⟩:=Aoy h hx hd
   exact hL c (by simp [At]) r B Iq s0 g0 w0 d g2 a w k Q hk e k1 k2
  ·cases e
 | exit id=>intro hL s g a w nid k Q hk e h hx; exact wp_exit (hk (.exit id) s nid g a w e h hx)
 | ret=>intro hL s g a w nid k Q hk e h hx; exact wp_ret (hk .ret s nid g a w e h hx)
 | rangeFunc f params x y ihx ihy=>intro hL s g a w nid k Q hk e h hx; simp [ev] at e
 | scope c ih=>intro hL s g a w nid k Q hk e h hx; simp [ev] at e
 | label l=>intro hL s g a w nid k Q hk e h hx; simp [ev] at e
 | goto l=>intro hL s g a w nid k Q hk e h hx; simp [ev] at e
 | refuse why=>intro hL s g a w nid k Q hk e h hx; simp [ev] at e
end
theorem Bex {np:Nat} {cfg:Cfg} {L L':Lt R cfg.pat} {c:Code} (hm:P.follows .mixedOrders=true) (hs:Ax P cfg.sigs) (hn:cfg.n=n) (hnp:cfg.np=np)
  (hL:∀ d k (r:R),L (Ga c) d k=some r→∃ m,Aux np (cfg.pat (Ga c)) (fun s nid k=>ev P cfg L' c s nid k) m d k=some r) (hL':∀ c'∈At c,A4 P R n np cfg.pat L' c'):A4 P R n np cfg.pat L c:=by
 intro r B Iq s0 g0 w0 d g a w k Q hk e h hx
 obtain ⟨m,e⟩:=hL d k r e
 exact Biw rfl (fun hk' e' h' hx'=>Bg4 hm hs hn hnp c hL' hk' e' h' hx') hk e h hx
end
end
section
def Aeh (s:St):List Md→Nat→List Lf
 | [],_=>[]
 | .rd _::ps,id=>Aeh s ps id
 | .own _ _::ps,id=>Aeh s ps (id + 1)
 | .bx _ _::ps,id=>(match s.res id with | .box _ ls=>ls | _=>[])++Aeh s ps (id + 1)
 | .mu _ _::ps,id=>Aeh s ps (id + 1)
 | .nst _ _::ps,id=>Aeh s ps (id + 1)
def bkD (s:St):(ps:List Md)→Nat→Option (BxD ps)
 | [],_=>some ()
 | .rd _::ps,id=>bkD s ps id
 | .own _ _::ps,id=>bkD s ps (id + 1)
 | .bx T t::ps,id=>match s.res id with
  | .box T' ls=>if T'=T then (match s.parse t ls with
   | some (z,[])=>(bkD s ps (id + 1)).bind fun q=>some (z,q)
   | _=>none) else none
  | _=>none
 | .mu e t::ps,id=>match s.res id with
  | .row e' t' xs=>if e'=e then (if h:t'=t then (bkD s ps (id + 1)).bind fun q=>some (h ▸ xs,q) else none) else none
  | _=>none
 | .nst e t::ps,id=>match s.res id with
  | .last e' t' xs c _=>bif c then none else (if e'=e then (if h:t'=t then (bkD s ps (id + 1)).bind fun q=>some (h ▸ xs,q) else none) else none)
  | _=>none
def Ht:List Md→Nat→List Nat
 | [],_=>[]
 | .rd _::ps,id=>Ht ps id
 | .own _ _::ps,id=>Ht ps (id + 1)
 | .bx _ _::ps,id=>id::Ht ps (id + 1)
 | .mu _ _::ps,id=>id::Ht ps (id + 1)
 | .nst _ _::ps,id=>id::Ht ps (id + 1)
def Bey (e0:NE) (t0:Ty) (l:Lf) (nid:Nat) (s:St):St×Lf:=match l with
 | .row id=>match s.res id with
  | .last e t xs c j=>match s.res j with
   | .row ej tj ys=>if h:tj=t then (if ej=e.i then ((s.setRes j .dead).setRes id (.last e t (K4 c xs (h ▸ ys)) false j),l) else (s,l)) else (s,l)
   | _=>(s,l)
  | .row e tt xs=>if e=e0.o then (match Bir e0.u t0 tt xs,s.res nid with
   | some [],.unborn=>((Ei s (some id)).setRes nid (.last e0 t0 [] false nid),.row nid)
   | _,_=>(s,l)) else (s,l)
  | _=>(s,l)
 | _=>(s,l)
def P1:List Md→List Lf→Nat→St→St×List Lf
 | [],ls,_,s=>(s,ls)
 | .rd t::ms,ls,nid,s=>let q:=P1 ms (ls.drop t.sz) nid s; (q.1,ls.take t.sz++q.2)
 | .nst e t::ms,l::r,nid,s=>let p:=Bey e t l nid s; let q:=P1 ms r (nid + 1) p.1; (q.1,p.2::q.2)
 | .own _ _::ms,l::r,nid,s=>let q:=P1 ms r nid s; (q.1,l::q.2)
 | .bx _ _::ms,l::r,nid,s=>let q:=P1 ms r nid s; (q.1,l::q.2)
 | .mu _ _::ms,l::r,nid,s=>let q:=P1 ms r nid s; (q.1,l::q.2)
 | .nst _ _::_,[],_,s=>(s,[])
 | .own _ _::_,[],_,s=>(s,[])
 | .bx _ _::_,[],_,s=>(s,[])
 | .mu _ _::_,[],_,s=>(s,[])
def fin (P:Program) (sg:E5) (rv:List ResultVar):Kt (Xo sg.rs×BxD sg.ps):=fun e s nid=>match e with
 | .exit _=>none
 | _=>match Um P s rv with
  | none=>none
  | some vs=>match shL sg.rsh vs with
   | none=>none
   | some ls=>
    let s':=P1 sg.rs ls nid s
    let s:=s'.1
    let ls:=s'.2
    let sF:=s.frz (Hs s sg.rs ls++Aeh s sg.ps 0)
    match Mm sF sg.rs ls with
    | none=>none
    | some q=>match bkD sF sg.ps 0 with
     | none=>none
     | some z=>bif Vm (A3 q.2++Ht sg.ps 0) then some (q.1,z) else none
def Bc (fn:Func):Code:=match fn.body with
 | some c=>c
 | none=>.skip
def Xe (sg:E5) (x:Xo sg.ps) (vs:List Vl):St:=⟨fun i=>match vs[i]? with | some v=>.vl v | none=>.dead,Jb sg.ps x 0 (fun _=>.unborn)⟩
def Bg5 (P:Program) (sigs:Tb) (pat:Nat→Da×(Nat→Da)) (sg:E5) (fn:Func) (L:Lt (Xo sg.rs×BxD sg.ps) pat) (x:Xo sg.ps):Option (Xo sg.rs×BxD sg.ps):=
 match fn.body,shV sg.psh (A23 sg.ps x 0) with
 | some c,some vs=>bif Nat.ble vs.length fn.ntmps then ev P ⟨sigs,Is sg.ps,fn.ntmps,pat⟩ L c (Xe sg x vs) (Is sg.ps) (fin P sg fn.results.toList) else none
 | _,_=>none
section
variable {P:Program} {n B:Nat} {Iq:List Nat} {s:St} {g:Gh} {a:Act} {w:World}
theorem Bix (h:Bp n B Iq s g a w) (e00:NE) (t0:Ty) (l:Lf) (nid:Nat) {u:Value} (hl:Cx s g w l u):∃ g',Bp n B Iq (Bey e00 t0 l nid s).1 g' a w∧Go B Iq s g w (Bey e00 t0 l nid s).1 g' w∧Cx (Bey e00 t0 l nid s).1 g' w (Bey e00 t0 l nid s).2 u:=by
 have stay:∃ g',Bp n B Iq s g' a w∧Go B Iq s g w s g' w∧Cx s g' w l u:=⟨g,h,Go.refl B Iq s g w,hl⟩
 unfold Bey
 split
 ·rename_i id
  split
  ·rename_i e t xs c j hr
   split
   ·rename_i ej tj ys hj
    split
    ·rename_i ht
     split
     ·rename_i hei
      subst ht
      subst hei
      obtain ⟨k1,k2,k3⟩:=Bf7 h hr hj
      exact ⟨_,k3,⟨Kp.refl B Iq w,k1,k2,rfl⟩,Cx.step k1 k2 hl⟩
     ·exact stay
    ·exact stay
   ·exact stay
  ·rename_i e0 tt xs hr
   split
   rotate_left
   ·exact stay
   rename_i he0
   split
   ·rename_i _ _ hys hf
    obtain ⟨htt,hxs⟩:=A83 hys
    subst htt
    subst hxs
    have r:=h.res id
    rw [hr] at r
    obtain ⟨cs,q1,q2,q3⟩:=r
    have q1:Hr w (.sl t0) 0 e00.o 1 (g.hdr id) 0 cs:=by
     refine (E4 (t:=.sl t0) rfl).2 ?_
     rw [← he0]
     have:=(E4 (Ba5 e00.u t0)).1 q1
     rw [Ayx] at this
     exact this
    simp only [Cx,hr] at hl
    obtain ⟨m1,m2,m3,m4⟩:=h.growR (o:=some id) hf (v:=g.hdr id) (v':=g.hdr id) (w':=w) (r:=.last e00 t0 [] false nid) (I:=[]) (fun j q=>by
     cases q
     exact ⟨by rw [hr]; rfl,rfl,q3⟩) (fun q=>by cases q) (World.grownBy.refl w _) (.inl rfl) (fun b hb=>(h.lt id b (q3.trans hb)).1) (fun _ b hb=>by cases hb) (fun hS _=>by
     refine ⟨cs,?_,?_,?_,fun u hq=>by cases hq⟩
     ·have e1:(g.mv (some id) nid (g.hdr id)).hdr nid=g.hdr id:=by simp [Gh.mv]
      rw [e1]
      exact q1
     ·exact ⟨fun i x u hx=>(by cases hx),fun i _ _ _ _ hx=>absurd hx (Nat.not_lt_zero _)⟩
     ·simp [Gh.mv])
    refine ⟨_,m3,⟨m4,m1,m2,rfl⟩,?_⟩
    simp only [Cx,Ai]
    rw [hl]
    simp [Gh.mv]
   ·exact stay
  ·exact stay
 ·exact stay
theorem Ajn:∀ {ms:List Md} {ls:List Lf} {nid:Nat} {s:St} {g:Gh} {cs:List Value},Bp n B Iq s g a w→I6 s g w ls cs→∃ g',Bp n B Iq (P1 ms ls nid s).1 g' a w∧Go B Iq s g w (P1 ms ls nid s).1 g' w∧I6 (P1 ms ls nid s).1 g' w (P1 ms ls nid s).2 cs
 | [],ls,nid,s,g,cs,h,hL=>⟨g,h,Go.refl B Iq s g w,hL⟩
 | .rd t::ms,ls,nid,s,g,cs,h,hL=>by
  obtain ⟨g2,m1,m2,m3⟩:=Ajn (ms:=ms) (nid:=nid) h (hL.drop t.sz)
  have m2':=m2
  obtain ⟨_,hS,hI,_⟩:=m2'
  refine ⟨g2,m1,m2,?_⟩
  have:=I6.append ((hL.take t.sz).imp fun l u q=>Cx.step hS hI q) m3
  rwa [List.take_append_drop] at this
 | .own _ _::ms,[],nid,s,g,cs,h,hL=>⟨g,h,Go.refl B Iq s g w,hL⟩
 | .bx _ _::ms,[],nid,s,g,cs,h,hL=>⟨g,h,Go.refl B Iq s g w,hL⟩
 | .mu _ _::ms,[],nid,s,g,cs,h,hL=>⟨g,h,Go.refl B Iq s g w,hL⟩
 | .nst _ _::ms,[],nid,s,g,cs,h,hL=>⟨g,h,Go.refl B Iq s g w,hL⟩
 | .own _ _::ms,l::ls,nid,s,g,[],h,hL=>hL.elim
 | .bx _ _::ms,l::ls,nid,s,g,[],h,hL=>hL.elim
 | .mu _ _::ms,l::ls,nid,s,g,[],h,hL=>hL.elim
 | .nst _ _::ms,l::ls,nid,s,g,[],h,hL=>hL.elim
 | .own _ _::ms,l::ls,nid,s,g,c::cs,h,hL=>by
  obtain ⟨g2,m1,m2,m3⟩:=Ajn (ms:=ms) (nid:=nid) h hL.2
  have m2':=m2
  obtain ⟨_,hS,hI,_⟩:=m2'
  exact ⟨g2,m1,m2,⟨Cx.step hS hI hL.1.1,hL.1.2⟩,m3⟩
 | .bx _ _::ms,l::ls,nid,s,g,c::cs,h,hL=>by
  obtain ⟨g2,m1,m2,m3⟩:=Ajn (ms:=ms) (nid:=nid) h hL.2
  have m2':=m2
  obtain ⟨_,hS,hI,_⟩:=m2'
  exact ⟨g2,m1,m2,⟨Cx.step hS hI hL.1.1,hL.1.2⟩,m3⟩
 | .mu _ _::ms,l::ls,nid,s,g,c::cs,h,hL=>by
  obtain ⟨g2,m1,m2,m3⟩:=Ajn (ms:=ms) (nid:=nid) h hL.2
  have m2':=m2
  obtain ⟨_,hS,hI,_⟩:=m2'
  exact ⟨g2,m1,m2,⟨Cx.step hS hI hL.1.1,hL.1.2⟩,m3⟩
 | .nst e t::ms,l::ls,nid,s,g,c::cs,h,hL=>by
  obtain ⟨g1,k1,k2,k3⟩:=Bix h e t l nid hL.1.1
  have k2':=k2
  obtain ⟨_,hS1,hI1,_⟩:=k2'
  obtain ⟨g2,m1,m2,m3⟩:=Ajn (ms:=ms) (nid:=nid + 1) k1 (hL.2.imp fun l u q=>Cx.step hS1 hI1 q)
  have m2':=m2
  obtain ⟨_,hS,hI,_⟩:=m2'
  exact ⟨g2,m1,k2.trans m2,⟨Cx.step hS hI k3,hL.1.2⟩,m3⟩
theorem Aa2:∀ {ps:List Md} {id j:Nat},j∈Ht ps id→id≤j∧j < id + Is ps
 | [],_,_,h=>by simp [Ht] at h
 | .rd _::ps,id,j,h=>Aa2 (ps:=ps) h
 | .own _ _::ps,id,j,h=>by
  have:=Aa2 (ps:=ps) h
  simp only [Is]
  omega
 | .bx _ _::ps,id,j,h=>by
  simp only [Ht,List.mem_cons] at h
  simp only [Is]
  rcases h with rfl | h
  ·omega
  ·have:=Aa2 (ps:=ps) h
   omega
 | .mu _ _::ps,id,j,h=>by
  simp only [Ht,List.mem_cons] at h
  simp only [Is]
  rcases h with rfl | h
  ·omega
  ·have:=Aa2 (ps:=ps) h
   omega
 | .nst _ _::ps,id,j,h=>by
  simp only [Ht,List.mem_cons] at h
  simp only [Is]
  rcases h with rfl | h
  ·omega
  ·have:=Aa2 (ps:=ps) h
   omega
theorem A49 (hres:∀ id,Lr s g w id (s.res id)) {g0:Gh}:∀ {ps:List Md} {id:Nat} {us:List Value} {y:BxD ps} {x:Xo ps} {w0:World} {S:Nat→Prop},bkD s ps id=some y→HR w0 S ps x us→
  (∀ j,j∈Ht ps id→(∀ T ls,s.res j=.box T ls→g.blk j=(Fc w0 ps us id g0).blk j)∧(∀ e,∀ t:Ty,∀ xs:List t.D,s.res j=.row e t xs→g.blk j=(Fc w0 ps us id g0).blk j∧g.hdr j=(Fc w0 ps us id g0).hdr j)∧((s.res j).nst=true→g.blk j=(Fc w0 ps us id g0).blk j∧g.hdr j=(Fc w0 ps us id g0).hdr j))→
  BkR w (Eg s g) ps y us∧d5 w ps us=owB w s g ((Ht ps id).map some)∧∀ j∈Ht ps id,(s.res j).live=true
 | [],_,_,_,_,_,_,_,_,_=>⟨trivial,rfl,by simp [Ht]⟩
 | .rd t::ps,id,us,y,x,w0,S,e,⟨c1,c2,h1,h2,h3⟩,hp=>by
  subst h1
  have hd:(c1++c2).drop t.sz=c2:=by rw [← Ty.K_len h2]; simp
  simp only [BkR,d5,hd]
  exact A49 (ps:=ps) (x:=x.2) hres e h3 (fun j q1=>by have:=hp j q1; simp only [Fc,hd] at this; exact this)
 | .own e0 t::ps,id,us,y,x,w0,S,e,⟨u,c2,h1,h2,h3⟩,hp=>by
  subst h1
  simp only [BkR,d5,List.tail_cons]
  exact A49 (ps:=ps) (x:=x.2) hres e h3 (fun j q1=>by have:=hp j q1; simp only [Fc,List.tail_cons] at this; exact this)
 | .bx T t::ps,id,us,y,x,w0,S,e,⟨b,c2,h1,h2,h3⟩,hp=>by
  subst h1
  simp only [bkD] at e
  split at e
  ·rename_i T' ls hr
   split at e
   ·rename_i hT
    split at e
    ·rename_i z hz
     obtain ⟨q,e1,e2⟩:=A6 e
     cases e2
     subst hT
     have hb0:=(hp id (by simp [Ht])).1 T' ls hr
     simp only [Fc,List.head?_cons,List.tail_cons] at hb0
     rw [(Bb w0 ps c2 (id + 1) _ id (by omega)).1] at hb0
     simp only [Al] at hb0
     have hb:g.blk id=some b:=hb0
     have r:=hres id
     rw [hr] at r
     obtain ⟨b',cs,k1,k2,k3⟩:=r
     obtain rfl:b=b':=Option.some.inj (hb.symm.trans k1)
     obtain ⟨e3,k4⟩:=St.parse_K hres hz k3
     have hlen:cs.toList.take t.sz=cs.toList:=by
      apply List.take_of_length_le
      have:ls.length≤t.sz:=List.drop_eq_nil_iff.1 e3.symm
      rw [k3.length]; exact this
     rw [hlen] at k4
     obtain ⟨i1,i2,i3⟩:=A49 (ps:=ps) (x:=x.2) (us:=c2) hres e1 h3 (fun j q1=>by
      have:=hp j (by simp [Ht,q1])
      simp only [Fc,List.tail_cons] at this
      exact this)
     refine ⟨⟨⟨b,rfl,cs,k2,k4⟩,i1⟩,?_,?_⟩
     ·simp only [d5,Ht,List.map_cons,owB,List.head?_cons,Option.bind_some,List.tail_cons,Xw,hb,i2,hr,Jw.nst0,cond_false,List.append_nil]
     ·intro j hj
      simp only [Ht,List.mem_cons] at hj
      rcases hj with rfl | hj
      ·rw [hr]; rfl
      ·exact i3 j hj
    ·cases e
   ·cases e
  ·cases e
 | .mu e0 t::ps,id,us,y,x,w0,S,e,⟨u,c2,h1,h2,h3⟩,hp=>by
  subst h1
  simp only [bkD] at e
  split at e
  ·rename_i e' t' xs hr
   split at e
   ·rename_i he
    split at e
    ·rename_i ht
     obtain ⟨q,e1,e2⟩:=A6 e
     cases e2
     subst he ht
     obtain ⟨hb0,hh0⟩:=(hp id (by simp [Ht])).2.1 e' t' xs hr
     simp only [Fc,List.head?_cons,List.tail_cons,List.headD_cons] at hb0 hh0
     rw [(Bb w0 ps c2 (id + 1) _ id (by omega)).1] at hb0
     rw [(Bb w0 ps c2 (id + 1) _ id (by omega)).2.1] at hh0
     simp only [Al,Option.bind_some] at hb0 hh0
     have r:=hres id
     rw [hr] at r
     obtain ⟨cs,k1,k2,k3⟩:=r
     rw [hh0] at k1
     obtain ⟨i1,i2,i3⟩:=A49 (ps:=ps) (x:=x.2) (us:=c2) hres e1 h3 (fun j q1=>by
      have:=hp j (by simp [Ht,q1])
      simp only [Fc,List.tail_cons] at this
      exact this)
     refine ⟨⟨⟨u,rfl,cs,k1,k2⟩,i1⟩,?_,?_⟩
     ·simp only [d5,Ht,List.map_cons,owB,List.head?_cons,Option.bind_some,List.tail_cons,hb0,i2,hr,Jw.nst0,cond_false,List.append_nil]
     ·intro j hj
      simp only [Ht,List.mem_cons] at hj
      rcases hj with rfl | hj
      ·rw [hr]; rfl
      ·exact i3 j hj
    ·cases e
   ·cases e
  ·cases e
 | .nst e0 t::ps,id,us,y,x,w0,S,e,⟨u,c2,h1,h2,h3⟩,hp=>by
  subst h1
  simp only [bkD] at e
  split at e
  ·rename_i e' t' xs c j0 hr
   cases c with
   | true=>cases e
   | false=>
   simp only [cond_false] at e
   split at e
   ·rename_i he
    split at e
    ·rename_i ht
     obtain ⟨q,e1,e2⟩:=A6 e
     cases e2
     subst he ht
     obtain ⟨hb0,hh0⟩:=(hp id (by simp [Ht])).2.2 (by rw [hr]; rfl)
     simp only [Fc,List.head?_cons,List.tail_cons,List.headD_cons] at hb0 hh0
     rw [(Bb w0 ps c2 (id + 1) _ id (by omega)).1] at hb0
     rw [(Bb w0 ps c2 (id + 1) _ id (by omega)).2.1] at hh0
     simp only [Al,Option.bind_some] at hb0 hh0
     have r:=hres id
     rw [hr] at r
     obtain ⟨cs,k1,k2,k3,_⟩:=r
     have k1:Hr w (.sl t') 0 e'.o 1 (g.hdr id) xs.length cs:=k1
     rw [hh0] at k1
     obtain ⟨i1,i2,i3⟩:=A49 (ps:=ps) (x:=x.2) (us:=c2) hres e1 h3 (fun j q1=>by
      have:=hp j (by simp [Ht,q1])
      simp only [Fc,List.tail_cons] at this
      exact this)
     refine ⟨⟨⟨u,rfl,cs,k1,fun i z v q1 q2=>?_⟩,i1⟩,?_,?_⟩
     ·obtain ⟨ds,d1,d2,_⟩:=k2.row i z v q1 q2
      exact ⟨ds,d1,d2⟩
     ·simp only [d5,Ht,List.map_cons,owB,List.head?_cons,Option.bind_some,List.tail_cons,List.headD_cons,hb0,hh0,i2,hr,Jw.nst0,Bool.not_false,cond_true]
     ·intro j hj
      simp only [Ht,List.mem_cons] at hj
      rcases hj with rfl | hj
      ·rw [hr]; rfl
      ·exact i3 j hj
    ·cases e
   ·cases e
  ·cases e
theorem A5a (a b:List (Option Nat)):A3 (a++b)=A3 a++A3 b:=by
 induction a with
 | nil=>rfl
 | cons x r ih=>cases x<;>simp [A3,ih]
theorem A5b (l:List Nat):A3 (l.map some)=l:=by
 induction l with
 | nil=>rfl
 | cons x r ih=>simp [A3,ih]
theorem Biy (w:World) (s:St) (g:Gh) (a b:List (Option Nat)):owB w s g (a++b)=owB w s g a++owB w s g b:=by
 induction a with
 | nil=>rfl
 | cons x r ih=>cases x<;>simp [owB,ih]
theorem Tk:∀ {ps:List Md} {x:Xo ps} {id j:Nat} {res:Nat→Jw},j∈Ht ps id→(Jb ps x id res j).live=true
 | [],_,_,_,_,h=>by simp [Ht] at h
 | .rd _::ps,x,id,j,res,h=>Tk (ps:=ps) h
 | .own e t::ps,x,id,j,res,h=>Tk (ps:=ps) h
 | .bx T t::ps,x,id,j,res,h=>by
  simp only [Ht,List.mem_cons] at h
  rcases h with rfl | h
  ·have:Jb (.bx T t::ps) x j res j=.box T (t.leafs x.1):=(C5 ps x.2 (j + 1) _ j (by omega)).trans (Al _ _ _)
   rw [this]
   rfl
  ·exact Tk (ps:=ps) h
 | .mu e t::ps,x,id,j,res,h=>by
  simp only [Ht,List.mem_cons] at h
  rcases h with rfl | h
  ·have:Jb (.mu e t::ps) x j res j=.row e t x.1:=(C5 ps x.2 (j + 1) _ j (by omega)).trans (Al _ _ _)
   rw [this]
   rfl
  ·exact Tk (ps:=ps) h
 | .nst e t::ps,x,id,j,res,h=>by
  simp only [Ht,List.mem_cons] at h
  rcases h with rfl | h
  ·have:Jb (.nst e t::ps) x j res j=.last e t x.1 false j:=(C5 ps x.2 (j + 1) _ j (by omega)).trans (Al _ _ _)
   rw [this]
   rfl
  ·exact Tk (ps:=ps) h
theorem Bg6 {sigs:Tb} {pat:Nat→Da×(Nat→Da)} {f:FuncId} {fn:Func} {sg:E5} {den:Xo sg.ps→Option (Xo sg.rs×BxD sg.ps)} (hm:P.follows .mixedOrders=true) (hs:Ax P sigs)
  (hf : P.funcs[f]? = some fn) (hname : (fn.name == "runtime.NumGoroutine") = false) (hbody : fn.body.isNone = false) (hden : ∀ x r, den x = some r → ∃ L, (∀ c ∈ At (Bc fn), A4 P (Xo sg.rs × BxD sg.ps) fn.ntmps (Is sg.ps) pat L c) ∧ Bg5 P sigs pat sg fn L x = some r) : M3 P f ∧ Af9 P f sg den := by
 have sound:Af9 P f sg den:=by
  intro x r hx w S us args hHR hSh hOwn
  obtain ⟨L,hLo,he⟩:=hden x r hx
  unfold Bg5 at he
  split at he
  ·rename_i c vs hb hvs
   have hbo:Bc fn=c:=by unfold Bc; rw [hb]
   rw [hbo] at hLo
   obtain ⟨hle,he⟩:=Tj he
   have hle:=Nat.le_of_ble_eq_true hle
   refine calls_of_wp hf hb ?_
   generalize hg0:Fc w sg.ps us 0 ⟨fun _=>none,fun _=>undef,fun b=>b < w.heap.size∧¬ S b∧b ∉ C8 w sg.ps us,fun _=>[]⟩=g0
   have hav:g0.av=fun b=>b < w.heap.size∧¬ S b∧b ∉ C8 w sg.ps us:=by rw [← hg0]; exact f7 _ _ _ _ _
   have hin:∀ j b,g0.blk j=some b→j < Is sg.ps∧b∈C8 w sg.ps us:=by
    intro j b q
    by_cases hj:j < Is sg.ps
    ·rw [← hg0] at q
     exact ⟨hj,K5 _ _ _ _ _ j b (by omega) (by omega) q⟩
    ·rw [← hg0,(Bb _ _ _ _ _ j (by omega)).1] at q
     cases q
   have hni:∀ j,((Xe sg x vs).res j).nst=true→j < Is sg.ps:=fun j hn=>by
    rcases Bfz sg.ps x 0 (fun _=>.unborn) j hn with q | q
    ·have:=q.2; omega
    ·cases q
   have hinn:∀ j b,((Xe sg x vs).res j).nst=true→g0.inn j b→b∈C8 w sg.ps us:=fun j b hn hi=>by
    have hi:b∈g0.innL j:=hi
    rw [← hg0] at hi
    exact Jc w sg.ps x us 0 (fun _=>.unborn) _ j b (by omega) (by have:=hni j hn; omega) hn hi
   have hSof:∀ b,S b→b < w.heap.size→Eg (Xe sg x vs) g0 b:=by
    intro b hb _
    refine ⟨by rw [hav]; exact fun q=>q.2.1 hb,fun j _ q=>?_,fun j hn q=>(hOwn.2 b (hinn j b hn q)).2 hb⟩
    exact (hOwn.2 b (hin j b q).2).2 hb
   obtain ⟨hL,hR⟩:=Ay8 (s:=Xe sg x vs) (g:=g0) hSof sg.ps x us 0 (fun _=>.unborn) ⟨fun _=>none,fun _=>undef,fun b=>b < w.heap.size∧¬ S b∧b ∉ C8 w sg.ps us,fun _=>[]⟩ hHR hOwn.1 (fun j _ _=>⟨rfl,by rw [hg0],by rw [hg0],by rw [hg0]⟩)
   have hV:=Bcy hvs hL hSh
   have hargs:args.length=vs.length:=hV.length
   have hent:Bp fn.ntmps w.heap.size (C8 w sg.ps us) (Xe sg x vs) g0 { tmps:=args.toArray++Array.replicate (fn.ntmps - args.toArray.size) undef,defers:=[] } w:=by
    refine ⟨by simp; omega,rfl,Nat.le_refl _,fun i=>?_,fun j=>?_,fun i j b q1 q2=>?_,fun j b q=>?_,fun b q=>?_,fun j b hn hi=>?_⟩
    ·show c9 _ _ _ (match vs[i]? with | some v=>.vl v | none=>.dead) _
     cases hi:vs[i]? with
     | none=>trivial
     | some v=>
      obtain ⟨u,e1,e2⟩:=hV.get hi
      have hlt:=(List.getElem?_eq_some_iff.1 e1).1
      have:(args.toArray++Array.replicate (fn.ntmps - args.toArray.size) undef).getD i undef=u:=by
       rw [Array.getD_eq_getD_getElem?,Array.getElem?_append_left (by simpa using hlt),List.getElem?_toArray,e1]
       rfl
      rw [this]
      exact e2
    ·by_cases hj:j < Is sg.ps
     ·exact (hR j (by omega) (by omega)).1
     ·have h1:(Xe sg x vs).res j=.unborn:=C5 _ _ _ _ j (by omega)
      rw [h1]
      show g0.blk j=none
      cases hq:g0.blk j with
      | none=>rfl
      | some b=>exact absurd (hin j b hq).1 hj
    ·rw [← hg0] at q1 q2
     refine Xx _ _ _ _ _ i j b hOwn.1 (by omega) ?_ (by omega) ?_ q1 q2
     ·rw [hg0] at q1; have:=(hin i b q1).1; omega
     ·rw [hg0] at q2; have:=(hin j b q2).1; omega
    ·have:=(hin j b q).2
     exact ⟨(hOwn.2 b this).1,.inl this,by rw [hav]; exact fun q=>q.2.2 this⟩
    ·rw [hav] at q
     exact q.1
    ·have hb:=hinn j b hn hi
     have hjl:=hni j hn
     refine ⟨⟨(hOwn.2 b hb).1,.inl hb,by rw [hav]; exact fun q=>q.2.2 hb⟩,fun k hk=>?_,fun k hne hnk hik=>?_⟩
     ·have hkl:=(hin k b hk).1
      have hi:b∈g0.innL j:=hi
      rw [← hg0] at hi hk
      exact (Ok w sg.ps x us 0 (fun _=>.unborn) _ j k b hOwn.1 (by omega) (by omega) (by omega) (by omega) hn hi).1 hk
     ·have hkl:=hni k hnk
      have hi:b∈g0.innL j:=hi
      have hik:b∈g0.innL k:=hik
      rw [← hg0] at hi hik
      exact (Ok w sg.ps x us 0 (fun _=>.unborn) _ j k b hOwn.1 (by omega) (by omega) (by omega) (by omega) hn hi).2 hne hnk hik
   have hgx:Gx (Is sg.ps) w.heap.size (C8 w sg.ps us) (Xe sg x vs) g0 w (Xe sg x vs) g0 w:=by
    refine ⟨Kp.refl _ _ _,rfl,fun id _ hl=>⟨fun q=>(by rw [q] at hl; cases hl),fun T ls q=>⟨⟨T,ls,q⟩,rfl⟩,fun e t xs q=>⟨⟨e,xs,q⟩,rfl,rfl⟩,fun q=>⟨q,rfl,rfl⟩⟩⟩
   refine Bg4 (r:=r) (Q:=bodyPost P fn _) (cfg:=⟨sigs,Is sg.ps,fn.ntmps,pat⟩) (L:=L) hm hs rfl rfl c hLo (fun e s' nid' g' a' w' hk hR' hX'=>?_) he hent hgx
   have hfin:∀ {vs':List Vl} {ls:List Lf} {q:Xo sg.rs×List (Option Nat)} {z:BxD sg.ps},Um P s' fn.results.toList=some vs'→shL sg.rsh vs'=some ls→
     Mm ((P1 sg.rs ls nid' s').1.frz (Hs (P1 sg.rs ls nid' s').1 sg.rs (P1 sg.rs ls nid' s').2++Aeh (P1 sg.rs ls nid' s').1 sg.ps 0)) sg.rs (P1 sg.rs ls nid' s').2=some q→bkD ((P1 sg.rs ls nid' s').1.frz (Hs (P1 sg.rs ls nid' s').1 sg.rs (P1 sg.rs ls nid' s').2++Aeh (P1 sg.rs ls nid' s').1 sg.ps 0)) sg.ps 0=some z→Vm (A3 q.2++Ht sg.ps 0)=true→
     a'.defers=[]∧∃ v,(results fn a'.tmps).run P w'=.ok v w'∧∃ vs us',Ending.returned v=.returned (A54 vs)∧ShR sg.rsh vs us'∧Lx (C8 w sg.ps us) w w'∧
      HR w' (Aul w S (C8 w sg.ps us) (C8 w' sg.rs us'++d5 w' sg.ps us)) sg.rs q.1 us'∧BkR w' (Aul w S (C8 w sg.ps us) (C8 w' sg.rs us'++d5 w' sg.ps us)) sg.ps z us∧
      (C8 w' sg.rs us'++d5 w' sg.ps us).Nodup∧∀ b∈C8 w' sg.rs us'++d5 w' sg.ps us,b < w'.heap.size∧(b∈C8 w sg.ps us∨w.heap.size≤b):=by
    intro vs' ls q z h1 h2 h3 h4 h5
    obtain ⟨us1,r1,r2⟩:=Aur hR' h1
    obtain ⟨cs,hsh,hL'⟩:=Bcx h2 r2
    obtain ⟨gM,hM,goM,hlm⟩:=Ajn (ms:=sg.rs) (ls:=ls) (nid:=nid') hR' hL'
    obtain ⟨gF,hF,goF,hlf,hhF⟩:=I7 (ls:=Hs (P1 sg.rs ls nid' s').1 sg.rs (P1 sg.rs ls nid' s').2++Aeh (P1 sg.rs ls nid' s').1 sg.ps 0) hM
    have hXF:=(hX'.step goM).step goF
    have hLF:=hlm.imp hlf
    obtain ⟨k1,k2,k3⟩:=Ay9 hF.res (x:=q.1) (ow:=q.2) h3 hLF
    obtain ⟨b1,b2,b3⟩:=A49 hF.res (g0:=⟨fun _=>none,fun _=>undef,fun b=>b < w.heap.size∧¬ S b∧b ∉ C8 w sg.ps us,fun _=>[]⟩) (x:=x) (us:=us) h4 hHR (fun j q1=>by
     have hj:=Aa2 q1
     obtain ⟨_,p2,p3,p4⟩:=hXF.pin j (show j < Is sg.ps by omega) (Tk q1)
     rw [hg0]
     exact ⟨fun T bl q2=>(p2 T bl q2).2,fun e t xs q2=>(p3 e t xs q2).2,fun q2=>(p4 q2).2⟩)
    have hnd:=Aoc h5
    have hgone:C8 w' sg.rs cs++d5 w' sg.ps us=owB w' ((P1 sg.rs ls nid' s').1.frz (Hs (P1 sg.rs ls nid' s').1 sg.rs (P1 sg.rs ls nid' s').2++Aeh (P1 sg.rs ls nid' s').1 sg.ps 0)) gF (q.2++(Ht sg.ps 0).map some):=by rw [k2,b2,Biy]
    have hS2:∀ b,Eg ((P1 sg.rs ls nid' s').1.frz (Hs (P1 sg.rs ls nid' s').1 sg.rs (P1 sg.rs ls nid' s').2++Aeh (P1 sg.rs ls nid' s').1 sg.ps 0)) gF b→b < w'.heap.size→Aul w S (C8 w sg.ps us) (C8 w' sg.rs cs++d5 w' sg.ps us) b:=by
     rintro b ⟨q1,q2⟩ _
     rw [hXF.av,hav] at q1
     refine ⟨?_,fun hq=>?_⟩
     ·by_cases c1:S b
      ·exact .inl c1
      ·by_cases c2:b∈C8 w sg.ps us
       ·exact .inr (.inl c2)
       ·right; right
        rcases Nat.lt_or_ge b w.heap.size with c3 | c3
        ·exact absurd ⟨c3,c1,c2⟩ q1
        ·exact c3
     ·rw [hgone] at hq
      obtain ⟨id,p1,p2 | ⟨p2,p3⟩⟩:=f9.1 hq
      ·rw [A5a,A5b] at p1
       rcases List.mem_append.1 p1 with p1 | p1
       ·exact q2.1 id (k3 id p1) p2
       ·exact q2.1 id (b3 id p1) p2
      ·exact q2.2 id (Jw.nst_of0 p2) ((Arx hF.res p2).1 _ p3)
    refine ⟨hR'.defers,_,r1,us1,cs,rfl,hsh,⟨hX'.kp.os,hX'.kp.tape,hX'.kp.output,hX'.kp.size,fun k q1 q2=>hX'.kp.block k q1 q2⟩,Alz (.inr hS2) k1,Adf (.inr hS2) b1,?_,fun b hb=>?_⟩
    ·rw [hgone]
     exact Ajb hF (by rw [A5a,A5b]; exact hnd)
    ·rw [hgone] at hb
     obtain ⟨id,p1,p2 | ⟨p2,p3⟩⟩:=f9.1 hb
     ·obtain ⟨q1,q2,_⟩:=hF.lt id b p2
      exact ⟨q1,q2⟩
     ·obtain ⟨⟨q1,q2,_⟩,_⟩:=hF.inn id b (Jw.nst_of0 p2) ((Arx hF.res p2).1 _ p3)
      exact ⟨q1,q2⟩
   have hend:∀ (e:Ex),(∀ id,e≠.exit id)→(match Um P s' fn.results.toList with
     | none=>none
     | some vs=>match shL sg.rsh vs with
      | none=>none
      | some ls=>
       let s1:=P1 sg.rs ls nid' s'
       let sF:=s1.1.frz (Hs s1.1 sg.rs s1.2++Aeh s1.1 sg.ps 0)
       match Mm sF sg.rs s1.2 with
       | none=>none
       | some q=>match bkD sF sg.ps 0 with
        | none=>none
        | some z=>bif Vm (A3 q.2++Ht sg.ps 0) then some (q.1,z) else none)=some r→bodyPost P fn (fun e w'=>∃ vs us',e=.returned (A54 vs)∧ShR sg.rsh vs us'∧Lx (C8 w sg.ps us) w w'∧
       HR w' (Aul w S (C8 w sg.ps us) (C8 w' sg.rs us'++d5 w' sg.ps us)) sg.rs r.1 us'∧BkR w' (Aul w S (C8 w sg.ps us) (C8 w' sg.rs us'++d5 w' sg.ps us)) sg.ps r.2 us∧
       (C8 w' sg.rs us'++d5 w' sg.ps us).Nodup∧∀ b∈C8 w' sg.rs us'++d5 w' sg.ps us,b < w'.heap.size∧(b∈C8 w sg.ps us∨w.heap.size≤b)) e.to a' w':=by
    intro e hne h
    split at h
    ·cases h
    ·rename_i vs' h1
     split at h
     ·cases h
     ·rename_i ls h2
      dsimp only at h
      split at h
      ·cases h
      ·rename_i q h3
       split at h
       ·cases h
       ·rename_i z h4
        obtain ⟨h5,h6⟩:=Tj h
        cases h6
        obtain ⟨f1,v,f2,f3⟩:=hfin h1 h2 h3 h4 h5
        cases e with
        | normal=>exact ⟨f1,v,f2,f3⟩
        | ret=>exact ⟨f1,v,f2,f3⟩
        | exit id=>exact absurd rfl (hne id)
   cases e with
   | normal=>exact hend .normal (fun id q=>by cases q) hk
   | ret=>exact hend .ret (fun id q=>by cases q) hk
   | exit id=>cases hk
  ·cases he
 exact ⟨⟨fn,hf,hname,hbody⟩,sound⟩
def Co:Nat→Da×(Nat→Da):=fun _=>(⟨[],[],[]⟩,fun _=>⟨[],[],[]⟩)
def F8 {R:Type} {pat:Nat→Da×(Nat→Da)}:Lt R pat:=fun _ _ _=>none
def E3 {R:Type} {pat:Nat→Da×(Nat→Da)} (key:Nat) (F:(pat key).1.D→Kt R→Option R) (L:Lt R pat):Lt R pat:=fun j d k=>if h:j=key then F (h ▸ d) k else L j d k
abbrev nI (n:Nat):Int:=(n:Int)
def Bw {α β γ:Type} (f:α→γ) (g:β→γ):α ⊕ β→γ
 | .inl a=>f a
 | .inr b=>g b
theorem Bg7 {R:Type} {np n:Nat} {cfg:Cfg} {L:Lt R cfg.pat} {c:Code} {key:Nat} (hkey:Ga c=key) (hm:P.follows .mixedOrders=true) (hs:Ax P cfg.sigs) (hn:cfg.n=n) (hnp:cfg.np=np)
  (hL:∀ d k (r:R),L key d k=some r→∃ m,Aux np (cfg.pat key) (fun s nid k=>ev P cfg L c s nid k) m d k=some r) (hL':∀ c'∈At c,A4 P R n np cfg.pat L c'):A4 P R n np cfg.pat L c:=by
 subst hkey
 exact Bex hm hs hn hnp hL hL'
theorem Bb5 {α β γ δ:Type} (f:α→Option γ) (g:β→Option γ) (o:α ⊕ β) (h:γ→Option δ):(Bw f g o).bind h=Bw (fun a=>(f a).bind h) (fun b=>(g b).bind h) o:=by cases o<;>rfl
theorem Bg8 {α β:Type} (c:Prop) [Decidable c] (x y:Option α) (f:α→Option β):(if c then x else y).bind f=if c then x.bind f else y.bind f:=by split<;>rfl
theorem Bez {α β:Type} (c:Bool) (x y:Option α) (f:α→Option β):(bif c then x else y).bind f=bif c then x.bind f else y.bind f:=by cases c<;>rfl
end
end
section
def Adp:Code→Option Oper
 | .region _ ops draw=>bif draw then none else ops.toList.head?
 | .seq a _=>Adp a
 | .block _ a=>Adp a
 | _=>none
def Agr {R:Type} (P:Program) (cfg:Cfg) (L:Lt R cfg.pat):Code→St→Nat→Kt R→Option R
 | .region _ ops draw,s,nid,k=>bif draw then none else Aab P cfg ops ops.toList.tail nid s (fun s'=>k .normal s' (nid + Av2 * ops.size))
 | .seq a b,s,nid,k=>Agr P cfg L a s nid fun e s' nid'=>match e with
  | .normal=>ev P cfg L b s' nid' k
  | .exit id=>k (.exit id) s' nid'
  | .ret=>k .ret s' nid'
 | .block id c,s,nid,k=>Agr P cfg L c s nid fun e s' nid'=>match e with
  | .normal=>k .normal s' nid'
  | .exit id'=>if id'=id then k .normal s' nid' else k (.exit id') s' nid'
  | .ret=>k .ret s' nid'
 | _,_,_,_=>none
def Av4 {D E O:Type} (left:D→List E) (stp:D→E→List E→Option D) (fin:D→Option O):Nat→D→O→Prop
 | 0,_,_=>False
 | m + 1,d,r=>(left d=[]→fin d=some r)∧∀ (i:Nat) (e:E),(left d)[i]? = some e→∃ d',stp d e ((left d).eraseIdx i)=some d'∧Av4 left stp fin m d' r
open Classical in
def Be0 {D E O:Type} (left:D→List E) (stp:D→E→List E→Option D) (fin:D→Option O) (d:D):Option O:=
 if h:∃ r,∃ m,Av4 left stp fin m d r then some (Classical.choose h) else none
theorem Be1 {D E O:Type} {left:D→List E} {stp:D→E→List E→Option D} {fin:D→Option O} {d:D} {r:O} (h:Be0 left stp fin d=some r):∃ m,Av4 left stp fin m d r:=by
 unfold Be0 at h
 split at h
 ·rename_i hq
  cases h
  exact Classical.choose_spec hq
 ·cases h
theorem Av4.one {D E O:Type} {left:D→List E} {stp:D→E→List E→Option D} {fin:D→Option O}:∀ {m m':Nat} {d:D} {r r':O},Av4 left stp fin m d r→Av4 left stp fin m' d r'→r=r'
 | 0,_,_,_,_,h,_=>h.elim
 | _,0,_,_,_,_,h=>h.elim
 | m + 1,m' + 1,d,r,r',h,k=>by
  cases hl:left d with
  | nil=>exact Option.some.inj ((h.1 hl).symm.trans (k.1 hl))
  | cons e l=>
   obtain ⟨d1,e1,h1⟩:=h.2 0 e (by rw [hl]; rfl)
   obtain ⟨d2,e2,h2⟩:=k.2 0 e (by rw [hl]; rfl)
   obtain rfl:d1=d2:=Option.some.inj (e1.symm.trans e2)
   exact Av4.one h1 h2
theorem Biz {D E O:Type} {left:D→List E} {stp:D→E→List E→Option D} {fin:D→Option O} {d:D} {m:Nat} {r:O} (h:Av4 left stp fin m d r):Be0 left stp fin d=some r:=by
 have hq:∃ r,∃ m,Av4 left stp fin m d r:=⟨r,m,h⟩
 unfold Be0
 rw [dif_pos hq]
 obtain ⟨m',h'⟩:=Classical.choose_spec hq
 rw [Av4.one h' h]
theorem Aoz:∀ {L:List MapEntry} {i:Nat} {e:MapEntry},L[i]? = some e→(L.map (·.born)).Nodup→(L.filter fun x=>!(x.born==e.born))=L.eraseIdx i
 | [],i,e,h,_=>by simp at h
 | x::L,0,e,h,hn=>by
  simp at h
  subst h
  simp only [List.map_cons,List.nodup_cons] at hn
  simp only [List.filter_cons,beq_self_eq_true,Bool.not_true,Bool.false_eq_true,if_false,List.eraseIdx_cons_zero]
  exact List.filter_eq_self.2 fun y hy=>by
   have:y.born≠x.born:=fun q=>hn.1 (List.mem_map.2 ⟨y,hy,q⟩)
   simp [this]
 | x::L,i + 1,e,h,hn=>by
  simp only [List.getElem?_cons_succ] at h
  simp only [List.map_cons,List.nodup_cons] at hn
  have:x.born≠e.born:=fun q=>hn.1 (List.mem_map.2 ⟨e,List.mem_of_getElem? h,q.symm⟩)
  simp only [List.filter_cons,List.eraseIdx_cons_succ]
  rw [Aoz h hn.2]
  simp [this]
theorem Bb6 {es:Array MapEntry} {seen:Array Nat} {t:Ty} {left:List (Aa×t.D)} {e:MapEntry} (h:Alu es seen t left) (hn:(es.toList.map (·.born)).Nodup) (he:e∈(leftOf es seen).toList):
  ∃ (i:Nat) (p:Aa×t.D),left[i]? = some p∧e.key=.string p.1∧e.val=Q7 t p.2∧Alu es (seen.push e.born) t (left.eraseIdx i):=by
 have hL:(leftOf es seen).toList=es.toList.filter fun e=>!seen.contains e.born:=by unfold leftOf; rw [Array.toList_filter]
 rw [hL] at he
 obtain ⟨i,hi⟩:=List.mem_iff_getElem?.1 he
 have h1:((es.toList.filter fun e=>!seen.contains e.born).map fun e=>(e.key,e.val))[i]? = some (e.key,e.val):=by rw [List.getElem?_map,hi]; rfl
 have hM:(es.toList.filter fun e=>!seen.contains e.born).map (fun e=>(e.key,e.val))=left.map fun p=>(Value.string p.1,Q7 t p.2):=h
 rw [hM,List.getElem?_map] at h1
 obtain ⟨p,hp,hq⟩:=Option.map_eq_some_iff.1 h1
 obtain ⟨h2,h3⟩:=Prod.mk.inj hq
 refine ⟨i,p,hp,h2.symm,h3.symm,?_⟩
 unfold Alu
 have e1:(es.toList.filter fun x=>!(seen.push e.born).contains x.born)=(es.toList.filter fun x=>!seen.contains x.born).filter fun x=>!(x.born==e.born):=by
  rw [List.filter_filter]
  congr 1
  funext x
  rw [contains_push,Bool.not_or,Bool.and_comm]
 have hs:((es.toList.filter fun x=>!seen.contains x.born).map (·.born)).Nodup:=List.Nodup.sublist (List.Sublist.map _ (List.filter_sublist)) hn
 rw [e1,Aoz hi hs,Aau,Aau,hM]
section
variable {P:Program} {n B:Nat} {Iq:List Nat} {s:St} {g:Gh} {a:Act} {w:World}
theorem Be2 (h:Bp n B Iq s g a w) {id r b:Nat} {t:Ty} {xs left left':List (Aa×t.D)} {cur cur':Option (Aa×t.D)} {o:Obj} {seen':Array Nat} {since c0':Nat} {es:Array MapEntry} {clock:Nat}
  (hr:s.res id=.iter t xs left cur) (hb:g.blk id=some r) (hg:g.hdr id=.pointer (some ⟨r,0,none⟩)) (hh:w.heap[r]? = some o) (hsb:Eg s g b) (hbl:b < w.heap.size) (he:w.heap[b]? = some (.map es clock)) (hs:MapKept.Stamped es clock)
  (hm:Q8 es t xs) (hl:Alu es seen' t left') (ho:∀ x∈es.toList,x.born < since) (hc:since≤c0') (hc2:since≤clock)
  (hcur:∀ k v,cur'=some (k,v)→c0'=clock∧∃ e∈es.toList,∃ seen0:Array Nat,seen'=seen0.push e.born∧e.key=.string k∧e.val=Q7 t v):
  Go B Iq s g w (s.setRes id (.iter t xs left' cur')) g (Go.ChangeMaps.setBlock w r (.mapIter (some b) since seen' c0'))∧Bp n B Iq (s.setRes id (.iter t xs left' cur')) g a (Go.ChangeMaps.setBlock w r (.mapIter (some b) since seen' c0')):=by
 unfold Go.ChangeMaps.setBlock
 obtain ⟨hset1,hset2⟩:=MapKept.heap_set (o':=.mapIter (some b) since seen' c0') hh
 have hlive:(s.res id).live=true:=by rw [hr]; rfl
 have hne:∀ k,k≠r→({ w with heap:=w.heap.setIfInBounds r (.mapIter (some b) since seen' c0') }:World).heap[k]? = w.heap[k]? := fun k hk=>hset2 k hk
 have hS:∀ c,Eg s g c→c < w.heap.size→Eg (s.setRes id (.iter t xs left' cur')) g c∧({ w with heap:=w.heap.setIfInBounds r (.mapIter (some b) since seen' c0') }:World).heap[c]? = w.heap[c]? := by
  intro c hc _
  refine ⟨⟨hc.1,fun j hj=>?_,fun j hj=>hc.2.2 j (Ej rfl hj)⟩,hne c (fun q=>hc.2.1 id hlive (by rw [q]; exact hb))⟩
  by_cases q:j=id
  ·rw [q]; exact hc.2.1 id hlive
  ·rw [Ak s _ q] at hj; exact hc.2.1 j hj
 have hI:∀ j,Az s g (s.setRes id (.iter t xs left' cur')) g j:=by
  intro j
  by_cases q:j=id
  ·subst q
   unfold Az
   rw [hr,Ai]
   exact .inr ⟨_,_,_,_,rfl,rfl,rfl⟩
  ·exact Az.same (Ak s _ q) rfl rfl
 refine ⟨⟨⟨rfl,rfl,rfl,by simp,fun k hk hn=>hne k (fun q=>?_)⟩,hS,hI,rfl⟩,h.step h.size h.defers (by simp) hS hI (fun i=>.inl ⟨rfl,rfl⟩) (fun j=>?_) h.inj (fun j c hj=>?_) rfl (NK.of h (by simp) (fun j c h1 h2=>⟨Ej rfl h1,h2⟩) (fun _ _=>rfl) (fun c _ hc=>hne c (fun q=>hc id (by rw [q]; exact hb))) fun j c hj=>.inl ⟨j,hj⟩)⟩
 ·subst q
  rcases (h.lt id k hb).2.1 with q2 | q2
  ·exact hn q2
  ·omega
 ·by_cases q:j=id
  ·subst q
   right
   rw [Ai]
   obtain ⟨s1,s2⟩:=hS b hsb hbl
   exact ⟨b,r,es,clock,since,c0',seen',hb,hg,hset1,s1,by simp; exact hbl,s2.trans he,hs,hm,hl,ho,hc,hc2,hcur⟩
  ·left
   exact ⟨Ak s _ q,rfl,rfl,fun c hc=>hne c (fun q2=>q (h.inj j id c hc (by rw [q2]; exact hb)))⟩
 ·have:=h.lt j c hj
  simpa using this
theorem Bi0 (h:Bp n B Iq s g a w) {o:Oper} {it:Operand} (ho:o.op=.next it false) {id:Nat} {t:Ty} {xs left:List (Aa×t.D)} {cur:Option (Aa×t.D)} (hl:s.leaf it=some (.row id)) (hr:s.res id=.iter t xs left cur):
  (left=[]∧(execOp a.eval o).run P w=.ok (.value (.tuple #[.bool false])) w)∨
  ∃ (i:Nat) (p:Aa×t.D) (w1:World),left[i]? = some p∧(execOp a.eval o).run P w=.ok (.value (.tuple #[.bool true,.string p.1,Q7 t p.2])) w1∧
   Go B Iq s g w (s.setRes id (.iter t xs (left.eraseIdx i) (some p))) g w1∧Bp n B Iq (s.setRes id (.iter t xs (left.eraseIdx i) (some p))) g a w1:=by
 obtain ⟨hlf,_⟩:=C7 h hl
 have q:=h.res id
 rw [hr] at q
 obtain ⟨b,r,es,clock,since,c0,sn,r1,r2,r3,r4,r5,r6,r7,r8,r9,r10,r11,r12,r13⟩:=q
 simp only [Cx,hr] at hlf
 have hrun:=run_next_at (P:=P) w o.type r b since c0 sn es clock r3 r6 r10 r11
 rcases hrun with ⟨h0,hn⟩ | ⟨e,he,w1,hw1,hn⟩
 ·left
  refine ⟨?_,?_⟩
  ·have:(es.toList.filter fun e=>!sn.contains e.born)=[]:=by
    have h2:leftOf es sn=#[]:=Array.eq_empty_of_size_eq_zero h0
    unfold leftOf at h2
    rw [← Array.toList_filter,h2]
   unfold Alu at r9
   rw [this] at r9
   exact List.map_eq_nil_iff.1 r9.symm
  ·simp [execOp,ho,hlf,r2,hn]
 ·right
  obtain ⟨i,p,hp,hk,hv,hle⟩:=Bb6 r9 r7.2.1 he
  have hmem:=(mem_left he).1
  refine ⟨i,p,Go.ChangeMaps.setBlock w1 r (.mapIter (some b) since (sn.push e.born) clock),hp,?_,?_⟩
  ·simp only [execOp,ho,hlf,r2]
   simp [hn,hk,hv]
  ·have main:∀ w2:World,Bp n B Iq s g a w2→w2.heap=w.heap→Go B Iq s g w s g w2→
     Go B Iq s g w (s.setRes id (.iter t xs (left.eraseIdx i) (some p))) g (Go.ChangeMaps.setBlock w2 r (.mapIter (some b) since (sn.push e.born) clock))∧
     Bp n B Iq (s.setRes id (.iter t xs (left.eraseIdx i) (some p))) g a (Go.ChangeMaps.setBlock w2 r (.mapIter (some b) since (sn.push e.born) clock)):=by
    intro w2 h2 hw2 hg2
    obtain ⟨k1,k2⟩:=Be2 h2 (left':=left.eraseIdx i) (cur':=some p) (seen':=sn.push e.born) (since:=since) (c0':=clock) hr r1 r2 (by rw [hw2]; exact r3) r4 (by rw [hw2]; exact r5) (by rw [hw2]; exact r6) r7 r8 hle r10 r12 r12 (fun k v q=>by
     cases q
     exact ⟨rfl,e,hmem,sn,rfl,hk,hv⟩)
    exact ⟨hg2.trans k1,k2⟩
   rcases hw1 with rfl | rfl
   ·exact main _ h rfl (Go.refl B Iq s g w1)
   ·obtain ⟨d1,d2⟩:=A88 h
    exact main _ d1 rfl d2
end
section
variable {R:Type} {P:Program} {n np B:Nat} {Iq:List Nat} {s0:St} {g0:Gh} {w0:World} {r:R}
theorem A5c {cfg:Cfg} {L:Lt R cfg.pat} (hm:P.follows .mixedOrders=true) (hs:Ax P cfg.sigs) (hn:cfg.n=n) (hnp:cfg.np=np) {o:Oper} (hg:o.guard=none) {s:St} {g:Gh} {a:Act} {w w1:World} (h:Bp n B Iq s g a w) {v:Value} (hr:(execOp a.eval o).run P w=.ok (.value v) w1)
  {s1:St} {g1:Gh} (h1:Bp n B Iq s1 g1 (a.put o.dst v) w1) (hx1:Gx np B Iq s0 g0 w0 s1 g1 w1):
  ∀ (c:Code),(∀ c'∈At c,A4 P R n np cfg.pat L c')→Adp c=some o→∀ {nid:Nat} {k:Kt R} {Q:Exit→Act→World→Prop},
  (∀ e s' nid' g' a' w',k e s' nid'=some r→Bp n B Iq s' g' a' w'→Gx np B Iq s0 g0 w0 s' g' w'→Q e.to a' w')→Agr P cfg L c s1 nid k=some r→c.wp P Q a w:=by
 intro c
 induction c with
 | region id ops draw=>
  intro hL ho nid k Q hk e
  cases draw with
  | true=>simp [Adp] at ho
  | false=>
   simp only [Adp,cond_false] at ho
   simp only [Agr,cond_false] at e
   refine wp_region_list ?_
   cases hl:ops.toList with
   | nil=>rw [hl] at ho; cases ho
   | cons o' l=>
    rw [hl] at ho e
    cases ho
    unfold wpList
    rw [Qt h (r:=true) (by unfold On; rw [hg]),if_pos rfl]
    left
    unfold Oper.wp
    rw [hr,Oper.upon_value]
    exact Ajm hs hn (fun s' g' a' w' q h' hx'=>hk .normal s' _ g' a' w' q h' hx') e h1 hx1
 | seq x y ihx ihy=>
  intro hL ho nid k Q hk e
  simp only [Agr] at e
  refine wp_seq (ihx (fun c' hc'=>hL c' (List.mem_append_left _ hc')) ho (fun e' s' nid' g' a' w' q h' hx'=>?_) e)
  cases e' with
  | normal=>exact Bg4 hm hs hn hnp y (fun c' hc'=>hL c' (List.mem_append_right _ hc')) hk q h' hx'
  | exit id=>exact hk (.exit id) s' nid' g' a' w' q h' hx'
  | ret=>exact hk .ret s' nid' g' a' w' q h' hx'
 | block id c ih=>
  intro hL ho nid k Q hk e
  simp only [Agr] at e
  refine wp_block (ih hL ho (fun e' s' nid' g' a' w' q h' hx'=>?_) e)
  cases e' with
  | normal=>exact hk .normal s' nid' g' a' w' q h' hx'
  | exit id'=>
   simp only at q
   show Exit.inBlock id Q (.exit id') a' w'
   unfold Exit.inBlock
   split at q
   ·rename_i hid
    simp only [hid,if_true]
    exact hk .normal s' nid' g' a' w' q h' hx'
   ·rename_i hid
    simp only [hid,if_false]
    exact hk (.exit id') s' nid' g' a' w' q h' hx'
  | ret=>exact hk .ret s' nid' g' a' w' q h' hx'
 | skip=>intro _ ho; cases ho
 | cond c x y ihx ihy=>intro _ ho; cases ho
 | loop c ih=>intro _ ho; cases ho
 | exit id=>intro _ ho; cases ho
 | ret=>intro _ ho; cases ho
 | rangeFunc f params x y ihx ihy=>intro _ ho; cases ho
 | scope c ih=>intro _ ho; cases ho
 | label l=>intro _ ho; cases ho
 | goto l=>intro _ ho; cases ho
 | refuse why=>intro _ ho; cases ho
end
def Bg9 (P:Program) (cfg:Cfg) (c:Code) (p:Da×(Nat→Da)) (ii sl:Nat) (t:Ty) (xs:p.1.D→List (Aa×t.D)) (d:p.1.D) (e:Aa×t.D) (l:List (Aa×t.D)):Option p.1.D:=
 Agr (R:=p.1.D) P cfg F8 c (((p.1.st d).setRes ii (.iter t (xs d) l (some e))).put cfg.n (some sl) (.tp [.lf (.c (.bool true)),.lf (.c (.string e.1)),.lf (.c (Q7 t e.2))])) p.1.nid fun x s nid=>match x with
  | .normal=>p.1.mtch cfg.np s nid
  | _=>none
def Bha (P:Program) (cfg:Cfg) (c:Code) (p:Da×(Nat→Da)) (sl xid:Nat) (d:p.1.D):Option (p.2 (xid + 2)).D:=
 Agr (R:=(p.2 (xid + 2)).D) P cfg F8 c ((p.1.st d).put cfg.n (some sl) (.tp [.lf (.c (.bool false))])) p.1.nid fun x s nid=>match x with
  | .exit id=>if id=xid then (p.2 (xid + 2)).mtch cfg.np s nid else none
  | _=>none
def Bdp (c:Code):Option (Operand×Nat):=match Adp c with
 | some o=>match o.op,o.guard,o.dst with
  | .next it false,none,some sl=>some (it,sl)
  | _,_,_=>none
 | none=>none
theorem Bhb {R:Type} {P:Program} {n np:Nat} {cfg:Cfg} {L:Lt R cfg.pat} {c:Code} {key:Nat} (hkey:Ga c=key) (hm:P.follows .mixedOrders=true) (hs:Ax P cfg.sigs) (hn:cfg.n=n) (hnp:cfg.np=np) {it:Operand} {sl ii xid:Nat} {t:Ty}
  (hpt:Ajf t=true) (hhd:Bdp c=some (it,sl)) (hno:At c=[])
  {xs left:(cfg.pat key).1.D→List (Aa×t.D)} {cur:(cfg.pat key).1.D→Option (Aa×t.D)} (hlf:∀ d,((cfg.pat key).1.st d).leaf it=some (.row ii)) (hres:∀ d,((cfg.pat key).1.st d).res ii=.iter t (xs d) (left d) (cur d))
  {stp:(cfg.pat key).1.D→Aa×t.D→List (Aa×t.D)→Option (cfg.pat key).1.D} {fin:(cfg.pat key).1.D→Option ((cfg.pat key).2 (xid + 2)).D}
  (hstp:∀ d e l,Bg9 P cfg c (cfg.pat key) ii sl t xs d e l=stp d e l) (hfin:∀ d,Bha P cfg c (cfg.pat key) sl xid d=fin d)
  (hL:∀ d k,L key d k=Be0 left stp (fun d=>(fin d).bind fun r=>k (.exit xid) (((cfg.pat key).2 (xid + 2)).st r) ((cfg.pat key).2 (xid + 2)).nid) d):A4 P R n np cfg.pat L c:=by
 obtain ⟨o,ho,hop,hg,hd⟩:∃ o:Oper,Adp c=some o∧o.op=.next it false∧o.guard=none∧o.dst=some sl:=by
  unfold Bdp at hhd
  split at hhd
  ·rename_i o ho
   split at hhd
   ·rename_i h1 h2 h3
    cases hhd
    exact ⟨o,ho,h1,h2,h3⟩
   ·cases hhd
  ·cases hhd
 subst hkey
 intro r B Iq s0 g0 w0 d g a w k Q hk e h hx
 rw [hL] at e
 obtain ⟨m,hT⟩:=Be1 e
 let J:Nat→Act→World→Prop:=fun m a w=>∃ d g,Av4 left stp (fun d=>(fin d).bind fun r=>k (.exit xid) (((cfg.pat (Ga c)).2 (xid + 2)).st r) ((cfg.pat (Ga c)).2 (xid + 2)).nid) m d r∧Bp n B Iq ((cfg.pat (Ga c)).1.st d) g a w∧Gx np B Iq s0 g0 w0 ((cfg.pat (Ga c)).1.st d) g w
 classical
 refine wp_loop (fun a w=>∃ m,J m a w) (fun a w=>if hj:∃ m,J m a w then Classical.choose (Aeg hj) else 0) ⟨m,d,g,hT,h,hx⟩ fun a w hj=>?_
 have hmu:(if hj:∃ m,J m a w then Classical.choose (Aeg hj) else 0)=Classical.choose (Aeg hj):=dif_pos hj
 have hspec:=(Classical.choose_spec (Aeg hj)).1
 generalize hmm:Classical.choose (Aeg hj)=m at hspec
 obtain ⟨d,g,hT,h,hx⟩:=hspec
 cases m with
 | zero=>exact hT.elim
 | succ m=>
  rcases Bi0 (P:=P) h hop (hlf d) (hres d) with ⟨hl,hrun⟩ | ⟨i,p,w1,hp,hrun,k1,k2⟩
  ·obtain ⟨q,ef,e2⟩:=A6 (hT.1 hl)
   rw [← hfin] at ef
   unfold Bha at ef
   rw [hn] at ef
   obtain ⟨r1,r2⟩:=Ps (av:=.tp [.lf (.c (.bool false))]) (v:=.tuple #[.bool false]) h o.dst ⟨_,rfl,rfl,fun j v hj=>by
    match j,hj with
    | 0,hj=>cases hj; exact ⟨.bool false,rfl,rfl,rfl⟩⟩
   rw [← hd] at ef
   refine A5c hm hs hn hnp hg h hrun r1 (hx.step r2) c (fun c' hc'=>by rw [hno] at hc'; cases hc') ho (fun e s' nid' g' a' w' qq h' hx'=>?_) ef
   cases e with
   | normal=>cases qq
   | ret=>cases qq
   | exit id=>
    simp only at qq
    split at qq
    ·rename_i hid
     subst hid
     subst hnp
     obtain ⟨g2,j1,j2⟩:=Aoy h' hx' qq
     exact hk (.exit id) _ _ g2 a' w' e2 j1 j2
    ·cases qq
  ·obtain ⟨d',ed,hT'⟩:=hT.2 i p hp
   rw [← hstp] at ed
   unfold Bg9 at ed
   rw [hn] at ed
   obtain ⟨r1,r2⟩:=Ps (av:=.tp [.lf (.c (.bool true)),.lf (.c (.string p.1)),.lf (.c (Q7 t p.2))]) (v:=.tuple #[.bool true,.string p.1,Q7 t p.2]) k2 o.dst ⟨_,rfl,rfl,fun j v hj=>by
    match j,hj with
    | 0,hj=>cases hj; exact ⟨.bool true,rfl,rfl,rfl⟩
    | 1,hj=>cases hj; exact ⟨.string p.1,rfl,rfl,rfl⟩
    | 2,hj=>cases hj; exact ⟨Q7 t p.2,rfl,rfl,A4p hpt⟩⟩
   rw [← hd] at ed
   refine A5c hm hs hn hnp hg h hrun r1 ((hx.step k1).step r2) c (fun c' hc'=>by rw [hno] at hc'; cases hc') ho (fun e s' nid' g' a' w' qq h' hx'=>?_) ed
   cases e with
   | ret=>cases qq
   | exit id=>cases qq
   | normal=>
    simp only at qq
    subst hnp
    obtain ⟨g2,j1,j2⟩:=Aoy h' hx' qq
    have hJ:J m a' w':=⟨d',g2,hT',j1,j2⟩
    refine ⟨⟨m,hJ⟩,?_⟩
    rw [hmu,hmm,dif_pos ⟨m,hJ⟩]
    have:=(Classical.choose_spec (Aeg (⟨m,hJ⟩:∃ m,J m a' w'))).2 m hJ
    omega
end
open Go Go.RowKit Go.WideShapes
section
def Bi1 (f:TypeId→Option Ty):List Field→Nat→Option Ty
 | [],_=>some .unit
 | d::r,off=>if d.offset=off then (f d.type).bind fun a=>(Bi1 f r (off + a.sz)).bind fun b=>some (.pair a b) else none
def tyG (P:Program):Nat→TypeId→Option Ty
 | 0,_=>none
 | k + 1,t=>match P.underlying t with
  | some (.int i)=>some (.int i)
  | some .bool=>some .bool
  | some .string=>some .str
  | some (.slice e)=>(tyG P k e).bind fun a=>if 0 < a.sz then (if 0 < P.bytesOf e then some (.sl a) else none) else none
  | some (.struct fs)=>(Bi1 (tyG P k) fs.toList 0).bind fun a=>if P.cellsOf t=a.sz then some a else none
  | _=>none
def Ao0:(t:Ty)→t.D→Prop
 | .int k,n=>(Lit.int k n).wf=true
 | .bool,_=>True
 | .str,s=>ByteArray.size s≤reachBytes
 | .sl t,xs=>List.length xs≤reachBytes∧∀ (i:Nat) (x:t.D),nth (α:=t.D) xs i=some x→Ao0 t x
 | .unit,_=>True
 | .pair a b,x=>Ao0 a x.1∧Ao0 b x.2
theorem A89 {α:Type} {n:Nat} {f:Fin n→α} {i:Nat} {x:α} (h:nth (List.ofFn f) i=some x):∃ hi:i < n,f ⟨i,hi⟩=x:=by
 unfold nth at h
 rw [List.getElem?_ofFn] at h
 split at h
 ·rename_i hi
  exact ⟨hi,Option.some.inj h⟩
 ·cases h
section
variable {H:Type} {enc:TypeId×Value→H} {P:Program} {w:World} {spare:Nat→Bool} {held:Bool}
theorem Ags {e:TypeId}:∀ {ds:List (DataW H)} {i:Nat} {d:DataW H},ds[i]? = some d→∀ n∈d.weights P e,n∈DataW.weightsAll P e ds
 | [],i,d,h,_,_=>by simp at h
 | d0::r,0,d,h,n,hn=>by
  simp at h
  subst h
  simp only [DataW.weightsAll,List.mem_append]
  exact .inl hn
 | d0::r,i + 1,d,h,n,hn=>by
  simp only [DataW.weightsAll,List.mem_append]
  exact .inr (Ags (i:=i) (by simpa using h) n hn)
theorem Bi2 {a:Addr} {v:Value} (h:w.cell? a=some v):a.block < w.heap.size:=by
 unfold World.cell? at h
 cases hq:w.heap[a.block]? with
 | none=>rw [hq] at h; simp at h
 | some o=>exact (Array.getElem?_eq_some_iff.1 hq).1
theorem Bkj:∀ {k:Nat} {T:TypeId} {t:Ty},tyG P k T=some t→∀ {fuel:Nat} {cs:List Value} {x:DataW H×List MemPlace},DataW.trod enc P w 0 spare held fuel T cs=some x→
  (∀ n∈x.1.weights P T,n≤reachBytes)→∃ y:t.D,t.K w (fun _=>True) y cs∧Ao0 t y:=by
 intro k
 induction k with
 | zero=>intro T t h; cases h
 | succ k ih=>
  intro T t h fuel cs x hx hw
  simp only [tyG] at h
  split at h
  ·rename_i i hU
   cases h
   obtain ⟨n,rfl,rfl,h3⟩:=DataW.trod_int hU hx
   exact ⟨n,rfl,h3⟩
  ·rename_i hU
   cases h
   obtain ⟨b,rfl,rfl⟩:=DataW.trod_bool hU hx
   exact ⟨b,rfl,trivial⟩
  ·rename_i hU
   cases h
   obtain ⟨s,rfl,rfl,h3⟩:=DataW.trod_string hU hx
   refine ⟨s,rfl,?_⟩
   have:=hw s.data.toList.length (by simp [DataW.weights])
   rw [Array.length_toList] at this
   exact this
  ·rename_i e hU
   obtain ⟨a,ha,h2⟩:=A6 h
   split at h2
   ·rename_i hpos
    split at h2<;>cases h2
    rename_i hby
    rcases DataW.trod_slice hU hx with ⟨rfl,rfl⟩ | ⟨ad,len,cap,elems,rest,n,rfl,rfl,rfl,hb,hl,hc,hlen,hel,_,_⟩
    ·exact ⟨([]:List a.D),⟨none,0,rfl,Nat.le_refl _,fun i y hy=>by simp [nth] at hy⟩,by simp,fun i y hy=>by simp [nth] at hy⟩
    ·have hwl:(elems.length + rest.length) * P.bytesOf e≤reachBytes:=by
      have:=hw ((elems.length + rest.length) * P.bytesOf e) (by simp [DataW.weights,hU])
      simpa using this
     have one:∀ i:Fin len,∃ y:a.D,(∃ cs',cs'.length=a.sz∧a.K w (fun _=>True) y cs'∧ad.block < w.heap.size∧∀ (j:Nat) (u:Value),cs'[j]? = some u→w.cell? (ad.add (i.1 * a.sz + j))=some u)∧Ao0 a y:=by
      intro i
      have hi:=hel i.1 i.2
      rw [List.getElem?_eq_getElem (by omega)] at hi
      obtain ⟨cs',h1,h2⟩:=A6 hi
      obtain ⟨y,k1,k2⟩:=ih ha h2 (fun m hm=>hw m (by
       simp only [DataW.weights,hU,List.mem_cons,List.mem_append]
       refine .inr (.inl (Ags (i:=i.1) (d:=(elems[i.1]'(by omega)).1) ?_ m hm))
       rw [List.getElem?_map,List.getElem?_eq_getElem (by omega)]
       rfl))
      have hsz:=Ty.K_len k1
      obtain ⟨_,c2,c3⟩:=World.cells?_some h1
      have hcell:P.cellsOf e=a.sz:=by omega
      have hall:∀ (j:Nat) (u:Value),cs'[j]? = some u→w.cell? (ad.add (i.1 * a.sz + j))=some u:=by
       intro j u hu
       have hj:=(List.getElem?_eq_some_iff.1 hu).1
       have:=c3 j (by omega)
       rw [Ax1,hcell] at this
       rw [this,hu]
      refine ⟨y,⟨cs',hsz,k1,?_,hall⟩,k2⟩
      have h0:cs'[0]? = some (cs'[0]'(by omega)):=List.getElem?_eq_getElem (by omega)
      have:=Bi2 (hall 0 _ h0)
      rwa [Aap] at this
     refine ⟨(List.ofFn fun i=>Classical.choose (one i):List a.D),⟨some ad,cap,by rw [List.length_ofFn],by rw [List.length_ofFn]; exact hl,fun i y hy=>?_⟩,?_,fun i y hy=>?_⟩
     ·obtain ⟨hi,rfl⟩:=A89 hy
      obtain ⟨⟨cs',q1,q2,q3,q4⟩,_⟩:=Classical.choose_spec (one ⟨i,hi⟩)
      exact ⟨ad,rfl,trivial,q3,cs',q1,q2,q4⟩
     ·rw [List.length_ofFn]
      have:elems.length * 1≤(elems.length + rest.length) * P.bytesOf e:=Nat.mul_le_mul (by omega) hby
      omega
     ·obtain ⟨hi,rfl⟩:=A89 hy
      exact (Classical.choose_spec (one ⟨i,hi⟩)).2
   ·cases h2
  ·rename_i fs hU
   obtain ⟨a,ha,h2⟩:=A6 h
   split at h2<;>cases h2
   rename_i hsz
   obtain ⟨xs,n,rfl,rfl,hcl,hxl,hf⟩:=DataW.trod_struct hU hx
   have hwE:∀ m∈DataW.weightsEach P (fs.toList.map (·.type)) (xs.map (·.1)),m≤reachBytes:=fun m hm=>hw m (by simpa [DataW.weights,hU] using hm)
   have go:∀ (l:List Field) (off:Nat) (b:Ty) (ys:List (DataW H×List MemPlace)),Bi1 (tyG P k) l off=some b→ys.length=l.length→
     (∀ (i:Nat) (f:Field),l[i]? = some f→DataW.trod enc P w 0 spare held n f.type ((cs.drop f.offset).take (P.cellsOf f.type))=ys[i]?)→
     (∀ m∈DataW.weightsEach P (l.map (·.type)) (ys.map (·.1)),m≤reachBytes)→∃ y:b.D,b.K w (fun _=>True) y ((cs.drop off).take b.sz)∧Ao0 b y:=by
    intro l
    induction l with
    | nil=>
     intro off b ys hb _ _ _
     cases hb
     exact ⟨(),by show _=[]; simp [Ty.sz],trivial⟩
    | cons f r ihl=>
     intro off b ys hb hlen hall hwts
     simp only [Bi1] at hb
     split at hb
     ·rename_i hoff
      obtain ⟨b1,hb1,hb⟩:=A6 hb
      obtain ⟨b2,hb2,hb⟩:=A6 hb
      cases hb
      cases ys with
      | nil=>simp at hlen
      | cons y0 ys=>
       have h0:=hall 0 f rfl
       simp only [List.getElem?_cons_zero] at h0
       obtain ⟨y1,k1,f1⟩:=ih hb1 h0 (fun m hm=>hwts m (by simp only [List.map_cons,DataW.weightsEach,List.mem_append]; exact .inl hm))
       obtain ⟨y2,k2,f2⟩:=ihl (off + b1.sz) b2 ys hb2 (by simpa using hlen) (fun i f' hi=>by have:=hall (i + 1) f' (by simpa using hi); simpa using this) (fun m hm=>hwts m (by simp only [List.map_cons,DataW.weightsEach,List.mem_append]; exact .inr hm))
       have e1:(cs.drop f.offset).take (P.cellsOf f.type)=(cs.drop off).take b1.sz:=by
        have hl1:=Ty.K_len k1
        rw [hoff] at hl1 ⊢
        rw [List.length_take] at hl1
        rcases Nat.le_total (P.cellsOf f.type) (cs.drop off).length with q | q
        ·rw [Nat.min_eq_left q] at hl1
         rw [hl1]
        ·rw [Nat.min_eq_right q] at hl1
         rw [List.take_of_length_le q,List.take_of_length_le (by omega)]
       rw [e1] at k1
       refine ⟨(y1,y2),⟨(cs.drop off).take b1.sz,(cs.drop (off + b1.sz)).take b2.sz,?_,k1,k2⟩,f1,f2⟩
       show (cs.drop off).take (b1.sz + b2.sz)=_
       rw [List.take_add,List.drop_drop]
     ·cases hb
   obtain ⟨y,k1,k2⟩:=go fs.toList 0 t xs ha (by simpa using hxl) (fun i f hi=>hf i f (by simpa using hi)) hwE
   refine ⟨y,?_,k2⟩
   rw [List.drop_zero,List.take_of_length_le (by omega)] at k1
   exact k1
  ·cases h
def Bb7 (P:Program) (T:TypeId):Option Nat:=match P.underlying T with
 | some (.struct _)=>some (P.cellsOf T)
 | _=>none
def rds:List Ty→List Md
 | []=>[]
 | t::r=>.rd t::rds r
def Bhd:(ts:List Ty)→Xo (rds ts)→Prop
 | [],_=>True
 | t::r,x=>Ao0 t x.1∧Bhd r x.2
def Bkk (P:Program):List TypeId→Option (List Ty)
 | []=>some []
 | T::r=>(tyG P 12 T).bind fun t=>(Bkk P r).bind fun l=>some (t::l)
theorem Ao1 (w:World):∀ (ts:List Ty) (us:List Value),C8 w (rds ts) us=[]
 | [],_=>rfl
 | t::r,us=>Ao1 w r _
theorem A6w {b0:Nat} {T:TypeId} {t:Ty} (h:tyG P 12 T=some t) {v:Value} (hv:Value.okWide P w .any b0 T v):∃ cs,ShR [Bb7 P T] [v] cs∧cs=v.cells.toList:=by
 unfold tyG at h
 unfold Bb7
 split at h
 ·rename_i i hU
  obtain ⟨n,rfl⟩:=okWide_int hU hv
  rw [hU]
  exact ⟨_,⟨_,[],[],rfl,rfl,rfl,rfl,rfl⟩,rfl⟩
 ·rename_i hU
  obtain ⟨n,rfl⟩:=okWide_bool hU hv
  rw [hU]
  exact ⟨_,⟨_,[],[],rfl,rfl,rfl,rfl,rfl⟩,rfl⟩
 ·rename_i hU
  obtain ⟨n,rfl⟩:=okWide_string hU hv
  rw [hU]
  exact ⟨_,⟨_,[],[],rfl,rfl,rfl,rfl,rfl⟩,rfl⟩
 ·rename_i e hU
  obtain ⟨a,l,c,rfl⟩:=okWide_slice hU hv
  rw [hU]
  exact ⟨_,⟨_,[],[],rfl,rfl,rfl,rfl,rfl⟩,rfl⟩
 ·rename_i fs hU
  obtain ⟨cs,rfl,hs⟩:=okWide_struct hU hv
  rw [hU]
  exact ⟨cs.toList,⟨cs,[],[],rfl,(List.append_nil _).symm,hs,rfl,rfl⟩,rfl⟩
 ·cases h
theorem Bhe {x:Option Nat} {sh:List (Option Nat)} {v:Value} {vs c1 c2:List Value} (h1:ShR [x] [v] c1) (h2:ShR sh vs c2):ShR (x::sh) (v::vs) (c1++c2):=by
 cases x with
 | none=>
  obtain ⟨u,us',cs',e1,e2,e3,e4,e5⟩:=h1
  subst e4 e5
  cases e1
  subst e2
  exact ⟨v,vs,c2,rfl,rfl,e3,h2⟩
 | some k=>
  obtain ⟨c,us',cs',e1,e2,e3,e4,e5⟩:=h1
  subst e4 e5
  cases e1
  subst e2
  exact ⟨c,vs,c2,rfl,by rw [List.append_nil],e3,h2⟩
theorem A5d {b0:Nat}:∀ {Ts:List TypeId} {ts:List Ty},Bkk P Ts=some ts→∀ {vs:List Value} {ds:List (DataW H)} {ps:List MemPlace},DataW.TrodAll enc P w 0 spare held Ts vs ds ps→
  (∀ (j:Nat) T v,Ts[j]? = some T→vs[j]? = some v→Value.okWide P w .any b0 T v)→(∀ n∈DataW.weightsEach P Ts ds,n≤reachBytes)→
  ∃ (x:Xo (rds ts)) (us:List Value),HR w (fun _=>True) (rds ts) x us∧ShR (Ts.map (Bb7 P)) vs us∧Bhd ts x
 | [],ts,h,vs,ds,ps,hT,_,_=>by
  cases h
  obtain ⟨rfl,rfl,rfl⟩:=Go.ChangeShapes.trodAll_nil hT
  exact ⟨(),[],rfl,⟨rfl,rfl⟩,trivial⟩
 | T::Ts,ts,h,vs,ds,ps,hT,hok,hw=>by
  simp only [Bkk] at h
  obtain ⟨t,h1,h⟩:=A6 h
  obtain ⟨l,h2,h⟩:=A6 h
  cases h
  obtain ⟨v,vs',d,ds',p,q,rfl,rfl,rfl,⟨fuel,k1⟩,k2⟩:=Go.ChangeShapes.trodAll_cons hT
  obtain ⟨y,q1,q2⟩:=Bkj h1 k1 (fun n hn=>hw n (by simp only [DataW.weightsEach,List.mem_append]; exact .inl hn))
  obtain ⟨x,us,r1,r2,r3⟩:=A5d h2 k2 (fun j T' v' e1 e2=>hok (j + 1) T' v' (by simpa using e1) (by simpa using e2)) (fun n hn=>hw n (by simp only [DataW.weightsEach,List.mem_append]; exact .inr hn))
  obtain ⟨cs,s1,rfl⟩:=A6w h1 (hok 0 T v rfl rfl)
  exact ⟨(y,x),v.cells.toList++us,⟨_,_,rfl,q1,r1⟩,Bhe s1 r2,q2,r3⟩
theorem Auy {base:Nat}:∀ {Ts:List TypeId} {vs:List Value} {ds:List (DataW H)} {ps:List MemPlace},DataW.TrodAll enc P w base spare held Ts vs ds ps→ds.length=Ts.length
 | [],vs,ds,ps,h=>by obtain ⟨rfl,rfl,rfl⟩:=Go.ChangeShapes.trodAll_nil h; rfl
 | T::Ts,vs,ds,ps,h=>by
  obtain ⟨v,vs',d,ds',p,q,rfl,rfl,rfl,k1,k2⟩:=Go.ChangeShapes.trodAll_cons h
  simp [Auy k2]
theorem Blq {α:Type} {l:List α} (h:l.length=1):∃ a,l=[a]:=List.length_eq_one_iff.1 h
def Nn (P:Program):List TypeId→Bool
 | []=>true
 | T::r=>P.readableRec T&&(Nat.blt T P.types.size&&Nn P r)
theorem A5e (hl:laidOutB P=true) {W W':World} (hb:Below W.heap.size W W'):∀ {Ts:List TypeId},Nn P Ts=true→∀ {vs:List Value} {ds:List (DataW H)} {ps:List MemPlace},DataW.TrodAll enc P W 0 (fun _=>true) true Ts vs ds ps→
  DataW.TrodAll enc P W' 0 (fun b=>decide (b < W.heap.size)) true Ts vs ds ps
 | [],_,vs,ds,ps,h=>by
  obtain ⟨rfl,rfl,rfl⟩:=Go.ChangeShapes.trodAll_nil h
  exact rfl
 | T::Ts,hr,vs,ds,ps,h=>by
  have hlt:=DataW.TrodAll.lt h
  obtain ⟨v,vs',d,ds',p,q,rfl,rfl,rfl,k1,k2⟩:=Go.ChangeShapes.trodAll_cons h
  simp only [Nn,Bool.and_eq_true] at hr
  exact ⟨p,q,Below.trod hl hr.1 (by simpa using hr.2.1) k1 hb (fun x hx=>hlt x (List.mem_append_left _ hx)),A5e hl hb hr.2.2 k2,rfl⟩
theorem Be3 {f:FuncId} {ts:List Ty} {psh:List (Option Nat)} {den:Xo (rds ts)→Option (Xo [.rd .bool]×BxD (rds ts))} (hs:Af9 P f ⟨rds ts,psh,[.rd .bool],[none]⟩ den)
  {x:Xo (rds ts)} {y:BxD (rds ts)} (hx:den x=some ((true,()),y)) {W:World} {vs us:List Value} (h1:HR W (fun _=>True) (rds ts) x us) (h2:ShR psh vs us):
  Calls P f vs.toArray W fun e W'=>e=.returned (.bool true)∧Below W.heap.size W W':=by
 refine Calls.mono (hs x _ hx W (fun _=>True) us vs h1 h2 ⟨by simp only [Ao1]; exact List.nodup_nil,fun b hb=>by simp only [Ao1] at hb; cases hb⟩) fun e W'=>?_
 rintro ⟨rs,us',rfl,k1,k2,⟨c1,c2,e1,e2,e3⟩,_⟩
 have e2':c1=[.bool true]:=e2
 have e3':c2=[]:=e3
 subst e2' e3'
 obtain ⟨u,us1,cs1,q1,q2,q3,q4,q5⟩:=k1
 subst q4 q5
 rw [e1] at q2
 have:u=.bool true:=by simpa using q2.symm
 subst this
 subst q1
 simp only [Ao1] at k2
 exact ⟨rfl,k2.below⟩
end
end
open Go Go.RowKit Go.Proofs Go.Shelf
section
variable {P:Program} {ρ:Ren}
theorem Bb8 {w:World} {b j:Nat} {cs:Array Value} {T:TypeId} (h:w.heap[b]? = some (.cells cs T (0,0))):w.frozen? ⟨b,j,none⟩=false:=Lib.frozen_of_heap h j
theorem A6x {w:World} {b:Nat} {v0 v1 u:Value} {T:TypeId} (h:w.heap[b]? = some (.cells #[v0,v1] T (0,0))):(w.setCell ⟨b,0,none⟩ u).heap[b]? = some (.cells #[u,v1] T (0,0))∧∀ k,k≠b→(w.setCell ⟨b,0,none⟩ u).heap[k]? = w.heap[k]? := by
 have hlt:=(Array.getElem?_eq_some_iff.1 h).1
 have h2:=(Array.getElem?_eq_some_iff.1 h).2
 constructor
 ·simp [World.setCell,Array.getElem?_modify,h]
 ·intro k hk
  simp [World.setCell,Array.getElem?_modify,Ne.symm hk]
theorem Blr (L:Lays.n240 P ρ) (X:Builder.X72 P ρ):Bj8 P (ρ.t 72) (ρ.f 240):=by
 intro w b v
 constructor
 ·intro h
  have c0:w.cell? ⟨b,0,none⟩=some (.pointer none):=by rw [Lib.cell_of_heap h]; rfl
  refine (Any.Builder_copyCheck_fresh L X b w c0 (by simp [World.shape?,h]) (Bb8 h)).mono ?_
  rintro e w' ⟨rfl,rfl⟩
  obtain ⟨h1,h2⟩:=A6x (u:=.pointer (some ⟨b,0,none⟩)) h
  refine ⟨rfl,⟨rfl,rfl,rfl,by simp [World.setCell],fun k _ hk=>h2 k (by simpa using hk)⟩,h1⟩
 ·intro h
  have c0:w.cell? ⟨b,0,none⟩=some (.pointer (some ⟨b,0,none⟩)):=by rw [Lib.cell_of_heap h]; rfl
  refine (Any.Builder_copyCheck_used L X b w c0).mono ?_
  rintro e w' ⟨rfl,rfl⟩
  exact ⟨rfl,Lx.refl _ _⟩
theorem Adq {l:List Nat} (w:World):Lx l w w.drew:=⟨rfl,rfl,rfl,Nat.le_refl _,fun _ _ _=>rfl⟩
theorem A6y {w w':World} {g n:Nat} (h:Lx [g] w w'):Lx [g] w (w'.freeze ⟨g,0,none⟩ n):=by
 by_cases hn:n=0
 ·subst hn; exact h
 ·refine h.trans ⟨?_,?_,?_,?_,fun k _ hk=>?_⟩
  ·simp [World.freeze,hn]
  ·simp [World.freeze,hn]
  ·simp [World.freeze,hn]
  ·simp [World.freeze,hn]
  ·have:g≠k:=fun e=>hk (by simp [e])
   simp [World.freeze,hn,Array.getElem?_modify,this]
theorem A9a {l:List Nat} {w w':World} (h:Lx l w w') (o:Obj):Lx l w (w'.alloc o):=by
 refine h.trans ⟨rfl,rfl,rfl,Nat.le_of_lt (by show w'.heap.size < (w'.heap.push o).size; simp),fun k hk _=>Lib.alloc_old w' o k hk⟩
set_option maxHeartbeats 2000000 in
set_option maxRecDepth 100000 in
theorem Bls (L:Lays.n169 P ρ) (X:Builder.Extra P ρ):Bj9 P (ρ.t 72) (ρ.t 5) (ρ.f 169):=by
 intro w b p v xs cs hby hbk hown hrep hne
 have hcm0:∀ (j:Nat) (x:Int),xs[j]? = some x→cs[j]? = some (.int .u8 x):=by
  intro j x hx
  have:=hrep.2 j x hx
  have h1:(cs.drop (j * 1)).take 1=[Value.int .u8 x]:=this
  rw [Nat.mul_one] at h1
  have h2:(cs.drop j)[0]? = some (.int .u8 x):=by
   have:=congrArg (fun l=>l[0]?) h1
   simpa using this
  simpa using h2
 have mixed:=L.mixed
 have t72:=L.t72; have a72:=L.a72; have z72:=L.z72; have v72:=L.v72; have u72:=run_underlying L.t72
 have t70:=L.t70; have a70:=L.a70; have z70:=L.z70; have v70:=L.v70; have u70:=run_underlying L.t70
 have t37:=L.t37; have a37:=L.a37; have z37:=L.z37; have v37:=L.v37; have u37:=run_underlying L.t37
 have t127:=L.t127; have a127:=L.a127; have z127:=L.z127; have v127:=L.v127; have u127:=run_underlying L.t127
 have t3:=L.t3; have a3:=L.a3; have z3:=L.z3; have v3:=L.v3; have u3:=run_underlying L.t3
 have t9:=L.t9; have a9:=L.a9; have z9:=L.z9; have v9:=L.v9; have u9:=run_underlying L.t9
 have t5:=X.t5; have a5:=X.a5; have z5:=X.z5; have v5:=X.v5; have u5:=run_underlying X.t5
 have hUS:=Any.unsafeString_none L X
 rcases hown.2 with ⟨rfl,hz⟩ | ⟨g,cap,cur,rfl,_,hg,hnc,hcm,hcs,htake⟩
 ·have hx0:xs=[]:=List.eq_nil_of_length_eq_zero hz
  subst hx0
  have c1:w.drew.cell? ⟨b,1,none⟩=some (.slice none 0 0):=by
   have:w.drew.heap[b]? = some (.cells #[p,.slice none 0 0] (ρ.t 72) (0,0)):=hbk
   rw [Lib.cell_of_heap this]; rfl
  have hSD:(Builtin.unsafeSliceData_ #[(ρ.t 37)] (ρ.t 127) #[.slice none 0 0]).run P w.drew=.ok (.pointer none) w.drew:=rfl
  go_enter L.f169,Body.n169_ntmps ρ
  go_wp2
  go_region_o
  all_goals (go_wp2; go_ret; exact ⟨rfl,Adq w⟩)
 ·by_cases h0:xs=[]
  ·subst h0
   by_cases hc0:cap=0
   ·subst hc0
    have hlt:b < w.heap.size:=(Array.getElem?_eq_some_iff.1 hbk).1
    have c1:w.drew.cell? ⟨b,1,none⟩=some (.slice (some ⟨g,0,none⟩) 0 0):=by
     have:w.drew.heap[b]? = some (.cells #[p,.slice (some ⟨g,0,none⟩) 0 0] (ρ.t 72) (0,0)):=hbk
     rw [Lib.cell_of_heap this]; rfl
    have hSD:(Builtin.unsafeSliceData_ #[(ρ.t 37)] (ρ.t 127) #[.slice (some ⟨g,0,none⟩) 0 0]).run P w.drew=.ok (.pointer (some ⟨w.drew.heap.size,0,none⟩)) (w.drew.alloc (.view ⟨g,0,none⟩ (ρ.t 5))):=
     Lib.run_unsafeSliceData_zero w.drew _ _ (ρ.t 5) L.t127 ⟨g,0,none⟩ 0 ((ρ.t 5),cur.size) (by have hg':w.drew.heap[g]? = some (.cells cur (ρ.t 5) (0,0)):=hg; simp [World.shape?,hg'])
    have c2:(w.drew.alloc (.view ⟨g,0,none⟩ (ρ.t 5))).cell? ⟨b,1,none⟩=some (.slice (some ⟨g,0,none⟩) 0 0):=by
     have:(w.drew.alloc (.view ⟨g,0,none⟩ (ρ.t 5))).heap[b]? = _:=(Lib.alloc_old w.drew _ b hlt).trans hbk
     rw [Lib.cell_of_heap this]; rfl
    have c3:(w.alloc (.view ⟨g,0,none⟩ (ρ.t 5))).drew.cell? ⟨b,1,none⟩=some (.slice (some ⟨g,0,none⟩) 0 0):=c2
    have c0:w.cell? ⟨b,1,none⟩=some (.slice (some ⟨g,0,none⟩) 0 0):=c1
    go_enter L.f169,Body.n169_ntmps ρ
    go_wp2
    go_region_o
    all_goals (go_wp2; go_ret; exact ⟨rfl,A9a (Adq w) _⟩)
   ·have c1:w.drew.cell? ⟨b,1,none⟩=some (.slice (some ⟨g,0,none⟩) 0 cap):=by
     have:w.drew.heap[b]? = some (.cells #[p,.slice (some ⟨g,0,none⟩) 0 cap] (ρ.t 72) (0,0)):=hbk
     rw [Lib.cell_of_heap this]; rfl
    have hSD:(Builtin.unsafeSliceData_ #[(ρ.t 37)] (ρ.t 127) #[.slice (some ⟨g,0,none⟩) 0 cap]).run P w.drew=.ok (.pointer (some ⟨g,0,none⟩)) w.drew:=
     Lib.run_unsafeSliceData_row _ _ _ _ _ _ hc0
    clear hc0
    go_enter L.f169,Body.n169_ntmps ρ
    go_wp2
    go_region_o
    all_goals (go_wp2; go_ret; exact ⟨rfl,Adq w⟩)
  ·generalize hl:(xs.map fun n=>UInt8.ofNat n.toNat)=l
   have hlen:l.length=xs.length:=by rw [← hl]; simp
   have hl0:l≠[]:=by rw [← hl]; simpa using h0
   have hlp:0 < l.length:=List.length_pos_iff.2 hl0
   have hstr:strOfNums xs=⟨l.toArray⟩:=by unfold strOfNums; rw [hl]
   rw [hstr]
   rw [← hlen] at hown hnc htake hbk
   rw [← hlen]
   have c1:w.drew.cell? ⟨b,1,none⟩=some (.slice (some ⟨g,0,none⟩) l.length cap):=by
    have:w.drew.heap[b]? = some (.cells #[p,.slice (some ⟨g,0,none⟩) l.length cap] (ρ.t 72) (0,0)):=hbk
    rw [Lib.cell_of_heap this]; rfl
   have hSD:(Builtin.unsafeSliceData_ #[(ρ.t 37)] (ρ.t 127) #[.slice (some ⟨g,0,none⟩) l.length cap]).run P w.drew=.ok (.pointer (some ⟨g,0,none⟩)) w.drew:=
    Lib.run_unsafeSliceData_row _ _ _ _ _ _ (by omega)
   have hUS:(Builtin.unsafeString_ #[(ρ.t 127),(ρ.t 3)] (ρ.t 9) #[.pointer (some ⟨g,0,none⟩),.int .i64 l.length]).run P w.drew=.ok (.string ⟨l.toArray⟩) (w.drew.freeze ⟨g,0,none⟩ l.length):=by
    refine Lib.run_unsafeString_row w.drew (ρ.t 127) (ρ.t 3) (ρ.t 9) (ρ.t 5) L.t127 X.cellsByte g cur.size (by have hg':w.drew.heap[g]? = some (.cells cur (ρ.t 5) (0,0)):=hg; simp [World.shape?,hg']) l hl0 (by omega) (by unfold maxLen at hcm; omega) ?_
    intro j x hx
    rw [← hl,List.getElem?_map] at hx
    obtain ⟨n,hn,rfl⟩:=Option.map_eq_some_iff.1 hx
    have hb:=List.all_eq_true.1 hby n (List.mem_of_getElem? hn)
    simp only [Bool.and_eq_true,decide_eq_true_eq] at hb
    have hc:=hcm0 j n hn
    have hj:j < l.length:=by rw [hlen]; exact (List.getElem?_eq_some_iff.1 hn).1
    rw [← htake,List.getElem?_take,if_pos (by omega)] at hc
    have hg':w.drew.heap[g]? = some (.cells cur (ρ.t 5) (0,0)):=hg
    rw [Ayu,Lib.cell_of_heap hg']
    have hn2:((UInt8.ofNat n.toNat).toNat:Int)=n:=by
     simp
     omega
    rw [hn2]
    simpa using hc
   rw [hlen] at hSD hUS c1 hbk
   clear hlen hl htake
   go_enter L.f169,Body.n169_ntmps ρ
   go_wp2
   go_region_o
   all_goals (go_wp2; go_ret; exact ⟨rfl,A6y (Adq w)⟩)
def Amc (s:Aa) (c:Int):Option Aa:=if 0≤c∧c≤9223372036854775807∧s.size * c.toNat≤140737488355328 then some ⟨(Lib.repeatL s.data.toList c.toNat).toArray⟩ else none
theorem Below.keeps {w w':World} (h:Below w.heap.size w w'):Lx [] w w':=⟨h.os,h.tape,h.output,h.size,fun k hk _=>h.block k hk⟩
theorem Be4 {f:FuncId} {s:Aa→Int→Option Aa} (H:∀ a c r,s a c=some r→∀ w,Calls P f #[.string a,.int .i64 c] w fun e w'=>e=.returned (.string r)∧Below w.heap.size w w'):
  Af9 P f ⟨[.rd .str,.rd (.int .i64)],[none,none],[.rd .str],[none]⟩ (fun x=>(s x.1 x.2.1).bind fun r=>some ((r,()),())):=by
 rintro ⟨a,c,⟨⟩⟩ r hr w S us args ⟨c1,c2,e1,h1,c3,c4,e2,h2,h3⟩ hsh hown
 obtain ⟨q,hq,hr⟩:=A6 hr
 cases hr
 have h1':c1=[.string a]:=h1
 have h2':c3=[.int .i64 c]:=h2
 have h3':c4=[]:=h3
 subst h1' h2' h3' e2 e1
 obtain ⟨u,us',cs',q1,q2,q3,u2,us2,cs2,q4,q5,q6,q7,q8⟩:=hsh
 subst q7 q8 q4 q1
 simp only [List.cons_append,List.nil_append,List.cons.injEq] at q2 q5
 obtain ⟨rfl,q2⟩:=q2
 rw [q5] at q2
 simp only [List.cons.injEq,and_true] at q2
 subst q2
 refine Calls.mono (H a c q hq w) fun e w'=>?_
 rintro ⟨rfl,hb⟩
 refine ⟨[.string q],[.string q],rfl,⟨_,_,_,rfl,rfl,rfl,rfl,rfl⟩,Below.keeps hb,⟨[.string q],[],rfl,rfl,rfl⟩,trivial,?_,?_⟩
 ·exact List.nodup_nil
 ·intro b hb
  cases hb
end
open Go Go.RowKit Go.Proofs
section
abbrev Bm (P:Program) (n:FuncId) (sd:SD):Prop:=M3 P n∧Af9 P n sd.sg sd.den
def tbF:List (FuncId×SD)→FuncId→Option SD
 | [],_=>none
 | p::r,f=>if f=p.1 then some p.2 else tbF r f
def Bi3 (P:Program):List (FuncId×SD)→Prop
 | []=>True
 | p::r=>Bm P p.1 p.2∧Bi3 P r
theorem Az9 {P:Program}:∀ {l:List (FuncId×SD)},Bi3 P l→∀ f d,tbF l f=some d→M3 P f∧Af9 P f d.sg d.den
 | [],_,f,d,h=>by cases h
 | p::r,⟨a,b⟩,f,d,h=>by
  unfold tbF at h
  split at h
  ·rename_i e; subst e; cases h; exact a
  ·exact Az9 b f d h
def tb (l:List (FuncId×SD)):Tb:=Tb.of (tbF l)
def tbN (l:List (FuncId×SD)):Tb:=⟨tbF l,fun _=>none,none,none,none,.all⟩
theorem A0a {P:Program} {l:List (FuncId×SD)} (h:Bi3 P l):Ax P (tbN l):=
 ⟨Az9 h,fun _ _ q=>(by cases q),fun _ _ q=>(by cases q),fun _ _ _ q=>(by cases q),fun _ _ _ _ _ q=>(by cases q)⟩
theorem Ay {P:Program} {l:List (FuncId×SD)} (h:Bi3 P l):Ax P (tb l):=Ax.of (Az9 h)
abbrev Ae {b:Type} (f:b) (_:Unit):b:=f
abbrev Ab {a g d b:Type} (h:g→d→b) (f:a→g) (x:a×d):b:=h (f x.1) x.2
abbrev u4 {a b c e g d r:Type} (h:g→d→r) (f:a→b→c→e→g) (x:a×b×c×e×d):r:=h (f x.1 x.2.1 x.2.2.1 x.2.2.2.1) x.2.2.2.2
theorem nb:(∀ {α β:Type} (c:Bool) (x y:Option α) (f:α→Option β),(bif c then x else y).bind f=bif c then x.bind f else y.bind f)∧
  (∀ {α β:Type} (c:Prop) [Decidable c] (x y:Option α) (f:α→Option β),(if c then x else y).bind f=if c then x.bind f else y.bind f)∧
  (∀ {α β γ δ:Type} (f:α→Option γ) (g:β→Option γ) (o:α ⊕ β) (h:γ→Option δ),(Bw f g o).bind h=Bw (fun a=>(f a).bind h) (fun b=>(g b).bind h) o)∧
  (∀ {α β γ:Type} (x:Option α) (f:α→Option β) (g:β→Option γ),(x.bind f).bind g=x.bind fun y=>(f y).bind g)∧
  (∀ {α β:Type} (f:α→Option β),Option.bind none f=none)∧
  (∀ {α β:Type} (a:α) (f:α→Option β),Option.bind (some a) f=f a):=
 ⟨Bez,fun c _ x y f=>Bg8 c x y f,Bb5,Option.bind_assoc,fun _=>rfl,fun _ _=>rfl⟩
abbrev p0:Da:=⟨[],[],[]⟩
def Bk9:List (Nat×Da)→Nat→Da
 | [],_=>p0
 | p::r,e=>if e=p.1 then p.2 else Bk9 r e
def Gs:List (Nat×Da×List (Nat×Da))→Nat→Da×(Nat→Da)
 | [],_=>(p0,fun _=>p0)
 | p::r,k=>if k=p.1 then (p.2.1,Bk9 p.2.2) else Gs r k
def Ko {R:Type} (p:Da×(Nat→Da)) (e:Ex) (i:Nat) (k:Kt R) (d:(p.2 i).D):Option R:=k e ((p.2 i).st d) (p.2 i).nid
def Be5 (P:Program) (R:Type) (n np:Nat) (pat:Nat→Da×(Nat→Da)) (L:Lt R pat):List Code→Prop
 | []=>True
 | c::r=>A4 P R n np pat L c∧Be5 P R n np pat L r
section
variable {P:Program} {R:Type} {n np:Nat}
theorem Be5.all {pat:Nat→Da×(Nat→Da)} {L:Lt R pat}:∀ {l:List Code},Be5 P R n np pat L l→∀ c∈l,A4 P R n np pat L c
 | [],_,c,h=>by cases h
 | d::r,⟨a,b⟩,c,h=>by
  rcases List.mem_cons.1 h with rfl | h
  ·exact a
  ·exact Be5.all b c h
theorem Cj {cfg:Cfg} {L:Lt R cfg.pat} {c:Code} (key:Nat) (ls:List Code) {E:Type} (T:{S:Type}→((cfg.pat key).1.D→Option S)→(E→Option S)→(cfg.pat key).1.D→Option S)
  (lo:Nat→(cfg.pat key).1.D→Option E) (fu:(cfg.pat key).1.D→Nat) (ou:Kt R→E→Option R) (hs:Ax P cfg.sigs) (hls':Be5 P R n np cfg.pat L ls)
  (na:∀ (f:E→Option R) (NX:(cfg.pat key).1.D→Option E) d,T (fun d=>(NX d).bind f) f d=(T NX some d).bind f)
  (rd:∀ nx k d,ev P cfg L c ((cfg.pat key).1.st d) (cfg.pat key).1.nid (Bb3 np (cfg.pat key) nx k)=T (fun d=>nx d k) (ou k) d:=by intros; kernel_rfl)
  (hL:∀ d k,L key d k=(lo (fu d) d).bind (ou k):=by exact fun _ _=>rfl)
  (l0:∀ d,lo 0 d=none:=by exact fun _=>rfl) (l1:∀ m d,lo (m + 1) d=T (lo m) some d:=by exact fun _ _=>rfl)
  (hkey:Ga c=key:=by kernel_rfl) (hm:P.follows .mixedOrders=true:=by kernel_rfl) (hn:cfg.n=n:=by rfl) (hnp:cfg.np=np:=by rfl) (hls:At c=ls:=by kernel_rfl):A4 P R n np cfg.pat L c:=by
 have lp:∀ (m:Nat) (d:(cfg.pat key).1.D) (k:Kt R),Aux np (cfg.pat key) (fun s nid k=>ev P cfg L c s nid k) m d k=(lo m d).bind (ou k):=by
  intro m
  induction m with
  | zero=>intro d k; rw [l0]; rfl
  | succ m ih=>
   intro d k
   rw [l1,← na]
   refine Eq.trans ?_ (congrArg (fun F=>T F (ou k) d) (funext fun d=>ih d k))
   exact rd _ k d
 refine Bg7 hkey hm hs hn hnp (fun d k r h=>⟨fu d,?_⟩) (fun c' hc'=>?_)
 ·rw [lp,← hL]; exact h
 ·rw [hls] at hc'; exact hls'.all c' hc'
theorem Aw {sigs:Tb} {f:FuncId} {fn:Func} {sd:SD} {pat:Nat→Da×(Nat→Da)} (ls:List Code) (L:Lt (Xo sd.sg.rs×BxD sd.sg.ps) pat) (hs:Ax P sigs)
  (hL:Be5 P (Xo sd.sg.rs×BxD sd.sg.ps) fn.ntmps (Is sd.sg.ps) pat L ls) (hf:P.funcs[f]? = some fn) {de:Xo sd.sg.ps→Option (Xo sd.sg.rs×BxD sd.sg.ps)} (hden:∀ x r,sd.den x=some r→de x=some r)
  (he : ∀ x, Bg5 P sigs pat sd.sg fn L x = de x) (hm : P.follows .mixedOrders = true := by kernel_rfl) (hname : (fn.name == "runtime.NumGoroutine") = false := by kernel_rfl) (hbody : fn.body.isNone = false := by kernel_rfl)
  (hls:At (Bc fn)=ls:=by kernel_rfl):Bm P f sd:=
 Bg6 (pat:=pat) hm hs hf hname hbody fun x r hx=>⟨L,⟨fun c hc=>hL.all c (by rw [hls] at hc; exact hc),(he x).trans (hden x r hx)⟩⟩
theorem A2 {α β:Type} {o:Option α} {g:α→β} {r:β} {d:Option β} (q:∀ y,o=some y→d=some (g y)) (h:(o.bind fun r=>some (g r))=some r):d=some r:=by
 obtain ⟨y,h1,h2⟩:=A6 h
 cases h2
 exact q y h1
end
end
end Go.Proofs.YtjokieaajjmoeaaGreat.R
namespace Go.Proofs.YtjokieaajjmoeaaGreat.V
open Go Go.Proofs.YtjokieaajjmoeaaGreat.R
abbrev Pg:=Int×Int×Int×Aa×Unit
abbrev Wr:=Int×Aa×Unit
abbrev Dk:=List Aa×List Wr×Unit
abbrev Ny:=Bool×Int×Aa×Unit
abbrev Scd:=List Aa×Int×Int×Unit
abbrev Ar:=Aa×Aa×Unit
abbrev Dh:=List Ar×Unit
abbrev Bq:=Aa×Aa×Bool×Unit
abbrev Rt:=Int×Int×Int×Int×Unit
abbrev Ls:=Int×Int×Int×Rt×Int×Int×Dh×Unit
abbrev Don:=Int×Ls×List Ny×Unit
abbrev S4:=Int×Dk×Bool×Ls×List Dh×List Aa×Unit
abbrev tI:Ty:=.int .i64
abbrev yPg:Ty:=.pair tI (.pair tI (.pair tI (.pair .str .unit)))
abbrev Fb:Ty:=.pair tI (.pair .str .unit)
abbrev Uw:Ty:=.pair (.sl .str) (.pair (.sl Fb) .unit)
abbrev P2:Ty:=.pair .bool (.pair tI (.pair .str .unit))
abbrev Aq:Ty:=.pair .str (.pair .str .unit)
abbrev B6:Ty:=.pair (.sl Aq) .unit
abbrev Ff:Ty:=.pair .str (.pair .str (.pair .bool .unit))
abbrev yRt:Ty:=.pair tI (.pair tI (.pair tI (.pair tI .unit)))
abbrev Il:Ty:=.pair tI (.pair tI (.pair tI (.pair yRt (.pair tI (.pair tI (.pair B6 .unit))))))
abbrev Xf:Ty:=.pair tI (.pair Uw (.pair .bool (.pair Il (.pair (.sl B6) (.pair (.sl .str) .unit)))))
def wt:(t:Ty)→t.D→Nat
 | .int _,_=>0
 | .bool,_=>0
 | .str,s=>ByteArray.size s
 | .sl t,xs=>List.length xs + (List.map (wt t) xs).sum
 | .unit,_=>0
 | .pair a b,x=>wt a x.1 + wt b x.2
def A5:(t:Ty)→t.D→Bool
 | .int _,_=>true
 | .bool,_=>true
 | .str,s=>decide (ByteArray.size s < 1152921504606846976)
 | .sl t,xs=>decide (List.length xs < 1152921504606846976)&&List.all xs (A5 t)
 | .unit,_=>true
 | .pair a b,x=>A5 a x.1&&A5 b x.2
def Dw:(t:Ty)→t.D→Bool
 | .int _,_=>true
 | .bool,_=>true
 | .str,_=>true
 | .sl t,xs=>decide (List.length xs≤1048576)&&List.all xs (Dw t)
 | .unit,_=>true
 | .pair a b,x=>Dw a x.1&&Dw b x.2
def eqL {α:Type} (f:α→α→Bool):List α→List α→Bool
 | [],[]=>true
 | a::r,b::q=>f a b&&eqL f r q
 | _,_=>false
def eqI (a b:Int):Bool:=decide (a=b)
def eqO (a b:Bool):Bool:=a==b
def eqS (a b:Aa):Bool:=ByteArray.toList a==ByteArray.toList b
def Pt:(t:Ty)→t.D→t.D→Bool
 | .int _,a,b=>eqI a b
 | .bool,a,b=>eqO a b
 | .str,a,b=>eqS a b
 | .sl t,xs,ys=>eqL (Pt t) xs ys
 | .unit,_,_=>true
 | .pair a b,x,y=>Pt a x.1 y.1&&Pt b x.2 y.2
def szM (t:Ty) (x:t.D) (left:Int):Option Int:=
 if (A5 t x&&decide (0≤left)&&decide (left≤1048576))=true then some (if left - (wt t x:Int) < 0 then -1 else left - (wt t x:Int)) else none
def toM (t:Ty) (x:t.D):Option t.D:=if Dw t x=true then some x else none
def eqM (t:Ty) (x y:t.D):Option Bool:=if (A5 t x&&A5 t y)=true then some (Pt t x y) else none
def Agt:Nat→Int→Aa→Aa
 | 0,_,out=>out
 | m + 1,k,out=>if k > 0 then Agt m (k / 10) (strOfNums [48 + k % 10]++out) else out
def S5 (k:Int):Aa:=if k≤0 then ⟨#[109,48]⟩ else ⟨#[109]⟩++Agt 20 k ⟨#[]⟩
def mkE:(t:Ty)→Int→t.D×Int
 | .int _,k=>(k,k + 1)
 | .bool,k=>(decide (k % 3=0),k + 1)
 | .str,k=>(S5 k,k + 1)
 | .sl _,k=>([],k)
 | .unit,k=>((),k)
 | .pair a b,k=>(((mkE a k).1,(mkE b (mkE a k).2).1),(mkE b (mkE a k).2).2)
def gL {α:Type} (e:Int→α) (c:Nat):Nat→Int→List α
 | 0,_=>[]
 | n + 1,k=>e k::gL e c n (k + c)
def mkN:Ty→Nat
 | .unit=>0
 | .pair a b=>mkN a + mkN b
 | .sl _=>0
 | _=>1
def mkL (t:Ty) (n:Nat) (k:Int):List t.D:=gL (fun k=>(mkE t k).1) (mkN t) n k
def It (t:Ty) (xs:List t.D) (k:Int):Option (Int×List t.D):=
 if (decide (1≤k)&&decide (k≤1125899906842624)&&decide (xs.length≤1125899906842624))=true then some (k + xs.length * mkN t,mkL t xs.length k) else none
def Aa3 (t:Ty) (xs:List t.D) (k:Int):Option Int:=
 if (decide (1≤k)&&decide (k≤1125899906842624)&&decide (xs.length≤1125899906842624))=true then some (if Pt (.sl t) xs (mkL t xs.length k)=true then k + xs.length * mkN t else -1) else none
def Vo {α:Type} (mk:Nat→Int→List α) (c:Nat):List (List α)→Int→List (List α)
 | [],_=>[]
 | x::r,k=>mk x.length k::Vo mk c r (k + x.length * c)
def A3h (t:Ty) (xs:List (List t.D)) (k:Int):List (List t.D):=Vo (mkL t) (mkN t) xs k
def O8 {α:Type}:List (List α)→Nat
 | []=>0
 | x::r=>x.length + O8 r
def Agu (t:Ty) (xs:List (List t.D)) (k:Int):Option (Int×List (List t.D)):=
 if (decide (1≤k)&&decide (k≤562949953421312)&&decide (xs.length≤1099511627776)&&decide (O8 xs * mkN t≤281474976710656))=true then some (k + O8 xs * mkN t,A3h t xs k) else none
def eqR (t:Ty) (x y:List t.D):Bool:=Pt (.sl t) x y
def A6z (t:Ty) (xs:List (List t.D)) (k:Int):Option Int:=
 if (decide (1≤k)&&decide (k≤562949953421312)&&decide (xs.length≤1099511627776)&&decide (O8 xs * mkN t≤281474976710656))=true then some (if eqL (eqR t) xs (A3h t xs k)=true then k + O8 xs * mkN t else -1) else none
def Fg (v lo hi:Int):Bool:=decide (lo≤v)&&decide (v≤hi)
def Qu (k:Aa):Bool:=Fg (k.size:Int) 1 20
def bl (a b:Aa):Bool:=Op.bytesLess (ByteArray.toList a) (ByteArray.toList b)
def z0:Aa:=⟨#[]⟩
abbrev zP:Ar:=(⟨#[]⟩,⟨#[]⟩,())
def M4 (xs:List Ar) (i:Nat):Bool:=Qu (xs.getD i zP).1&&(decide ((xs.getD i zP).2.1.size≤100)&&(i==0 || bl (xs.getD (i - 1) zP).1 (xs.getD i zP).1))
def Av (s:Dh):Bool:=decide (s.1.length≤100)&&(List.range' 0 s.1.length).all (M4 s.1)
def Rh (c:Bq):Bool:=Qu c.1&&(decide (c.2.1.size≤100)&&!(c.2.2.1&&!(c.2.1.toList==[])))
abbrev zC:Bq:=(⟨#[]⟩,⟨#[]⟩,false,())
def Br (b:List Bq):Bool:=Fg (b.length:Int) 1 20&&(List.range' 0 b.length).all fun i=>Rh (b.getD i zC)
def Aac {α E:Type} (p:α→Bool) (out:α→E) (ok:E):List α→E
 | []=>ok
 | x::r=>bif p x then out x else Aac p out ok r
def zW:Wr:=(0,⟨#[]⟩,())
def Av6 (n:Nat) (w:Wr):Bool:=decide (0≤w.1)&&(decide (w.1 < (n:Int))&&decide (w.2.1.size=64))
def B1 (d:Dk):Bool:=Fg (d.1.length:Int) 8 200&&(decide (d.2.1.length≤300)&&((List.range' 0 d.1.length).all (fun i=>decide ((d.1.getD i z0).size=64))&&(List.range' 0 d.2.1.length).all fun i=>Av6 d.1.length (d.2.1.getD i zW)))
def Gu {α σ:Type} (step:Nat→α→σ→σ):Nat→List α→σ→σ
 | _,[],s=>s
 | i,x::r,s=>Gu step (i + 1) r (step i x s)
def O2 (sec:List Aa) (ws:List Wr):List Aa:=Gu (fun _ w s=>s.set w.1.toNat w.2.1) 0 ws sec
def A9b (d:Dk):Dk:=(O2 d.1 d.2.1,[],())
def Xg (d:Dk) (a:Int):Aa:=Aac (fun w=>w.1==a) (fun w=>w.2.1) (d.1.getD a.toNat z0) d.2.1.reverse
def Q6 (v:Int):Nat→List Int
 | 0=>[]
 | n + 1=>Q6 (v / 256) n++[v % 256]
def Dy (v:Int) (n:Nat):Aa:=strOfNums (Q6 v n)
def A9c (s:Aa):Nat→Nat→Int→Int
 | 0,_,v=>v
 | k + 1,i,v=>A9c s k (i + 1) (v * 256 + Am s i)
def Agv (s:Aa):Int:=A9c s s.size 0 0
def Agw (h b:Int):Int:=IntKind.wrap IntKind.u64 (IntKind.wrap IntKind.u64 (nI (BitVec.toNat (BitVec.ofInt 64 h ^^^ BitVec.ofInt 64 (IntKind.wrap IntKind.u64 b)))) * 1099511628211)
def iter {σ:Type} (f:Nat→σ→σ):Nat→Nat→σ→σ
 | 0,_,s=>s
 | k + 1,i,s=>iter f k (i + 1) (f i s)
def Ash (s:Aa) (k i:Nat) (h:Int):Int:=iter (fun i h=>Agw h (Am s i)) k i h
def Ao2 (s:Aa) (w:Int):Aa:=bif Fg w 1 8 then Dy (Ash s s.size 0 14695981039346656037) w.toNat else ⟨#[]⟩
def Mq (p:Pg) (w:Int):Bool:=Fg w 1 8&&(Fg p.1 1 4&&(Fg p.2.1 1 60000&&(Fg p.2.2.1 1 1000000000&&(decide ((p.2.2.2.1.size:Int)≤56 - w)&&(p.1 != 3 || (p.2.2.2.1.toList==[]))))))
def Ia (p:Pg) (w:Int):Aa:=Dy p.1 1++Dy p.2.1 2++Dy p.2.2.1 4++Dy p.2.2.2.1.size 1++p.2.2.2.1++strOfNums (List.replicate (56 - w - p.2.2.2.1.size).toNat 0)
def E7 (p:Pg) (w:Int):Aa:=bif Mq p w then Ao2 (Ia p w) w++Ia p w else ⟨#[]⟩
abbrev zPg:Pg:=(0,0,0,⟨#[]⟩,())
def Bcb (b:Aa):Pg:=(Am b 0,Agv (Ao b 1 3),Agv (Ao b 3 7),Ao b 8 (8 + Am b 7),())
def Bcc (s:Aa) (w:Int):Pg:=Bcb (Ao s w (nI s.size))
def Dq (s:Aa) (w:Int):Pg×Bool:=
 bif nI s.size != 64 then (zPg,false)
 else bif !Fg w 1 8 then (zPg,false)
 else bif decide (Am (Ao s w (nI s.size)) 7 > 56 - w) then (zPg,false)
 else bif !((E7 (Bcc s w) w).toList==s.toList) then (zPg,false) else (Bcc s w,true)
def P3 (r:Rt):Bool:=Fg r.2.1 0 1&&Fg r.2.2.1 1 999999000
def Aa4 (r:Rt) (w:Int):Aa:=bif P3 r then E7 (4,r.2.2.2.1,r.1,Dy r.2.1 1++Dy r.2.2.1 4,()) w else ⟨#[]⟩
def Xh (c:Bq):List Int:=bif c.2.2.1 then [1,nI c.1.size]++Ad c.1 else [0,nI c.1.size]++Ad c.1++[nI c.2.1.size]++Ad c.2.1
def Im (b:List Bq):List Int:=(b.map Xh).flatten
def Hu (b:List Bq):Aa:=bif Br b then strOfNums (Im b) else ⟨#[]⟩
def Ba (s:Aa):Aa×Aa×Bool:=if (s.size:Int) < 1∨(s.size:Int) < 1 + Am s 0 then (⟨#[]⟩,s,false) else (Ao s 1 (1 + Am s 0),Ao s (1 + Am s 0) (nI s.size),true)
def Auz (strict:Bool) (s:Aa):Option (Bq×Aa):=
 bif strict&&decide (Am s 0 > 1) then none
 else bif !(Ba (Ao s 1 (nI s.size))).2.2 then none
 else bif Am s 0==1 then some (((Ba (Ao s 1 (nI s.size))).1,⟨#[]⟩,true,()),(Ba (Ao s 1 (nI s.size))).2.1)
 else bif !(Ba (Ba (Ao s 1 (nI s.size))).2.1).2.2 then none
 else some (((Ba (Ao s 1 (nI s.size))).1,(Ba (Ba (Ao s 1 (nI s.size))).2.1).1,false,()),(Ba (Ba (Ao s 1 (nI s.size))).2.1).2.1)
def P4 (strict:Bool):Nat→List Bq→Aa→Option (List Bq×Aa)
 | 0,r,s=>some (r,s)
 | f + 1,r,s=>bif decide (s.size > 0)&&decide (r.length≤20) then (match Auz strict s with | none=>none | some (c,t)=>P4 strict f (r++[c]) t) else some (r,s)
def Nn (s:Aa):List Bq×Bool:=match P4 true 22 [] s with
 | none=>([],false)
 | some (b,t)=>bif decide (t.size > 0) || !Br b then ([],false) else (b,true)
def A0b (s:Aa):List Bq×Bool:=match P4 false 22 [] s with
 | none=>([],false)
 | some (b,_)=>bif s.size==0 || !((Hu b).toList==s.toList) then ([],false) else (b,true)
def Gz (n:Nat):Nat→Aa→List Aa
 | 0,s=>[s]
 | f + 1,s=>if s.size > n then Ao s 0 n::Gz n f (Ao s n (nI s.size)) else [s]
def Dl (s:Aa) (w:Int):List Aa:=Gz (56 - w).toNat s.size s
def Gy (n:Nat) (w:Int):Int:=bif Fg w 1 8 then (if ((n:Int) + (56 - w) - 1) / (56 - w) > 1 then ((n:Int) + (56 - w) - 1) / (56 - w) else 1) else 0
def A5f (life w:Int):Int→List Aa→List Aa
 | _,[]=>[]
 | k,[p]=>[E7 (2,life,k,p,()) w]
 | k,p::q::r=>E7 (1,life,k,p,()) w::A5f life w (k + 1) (q::r)
def A0c (e:Aa) (life first w:Int):List Aa:=bif Fg w 1 8&&(Fg life 1 60000&&(decide (1≤first)&&decide (first≤1000000000 - Gy e.size w + 1))) then A5f life w first (Dl e w) else []
def opS (d:Dk) (o:Ny):Dk:=bif o.1 then A9b d else bif Av6 d.1.length (o.2.1,o.2.2.1,())&&decide (d.2.1.length < 300) then (d.1,d.2.1++[(o.2.1,o.2.2.1,())],()) else d
def Nk (p:Pg):Rt:=(p.2.2.1,Am p.2.2.2.1 0,Agv (Ao p.2.2.2.1 1 (nI p.2.2.2.1.size)),p.2.1,())
def Hv (s:Aa) (w at':Int) (best:Rt):Rt:=
 bif (Dq s w).2&&((Dq s w).1.1==4)&&decide ((Dq s w).1.2.2.2.1.size=5)&&((Dq s w).1.2.2.1 % 2==at')&&P3 (Nk (Dq s w).1)&&decide ((Dq s w).1.2.2.1 > best.1) then Nk (Dq s w).1 else best
def Bg (d:Dk) (w:Int):Rt:=bif B1 d&&Fg w 1 8 then Hv (Xg d 1) w 1 (Hv (Xg d 0) w 0 (0,0,1,0,())) else (0,0,0,0,())
def Blb (p:Ar):Bq:=(p.1,p.2.1,false,())
def Ux (i:Nat) (p:Ar) (r:List (List Bq)×Bool×List Bq):List (List Bq)×Bool×List Bq:=bif i % 20==0 then (K4 r.2.1 r.1 r.2.2,true,[Blb p]) else (r.1,r.2.1,r.2.2++[Blb p])
def A0d (i:Nat) (l:List Ar) (r:List (List Bq)×Bool×List Bq):List (List Bq)×Bool×List Bq:=Gu Ux i l r
def Eh (s:Dh):List (List Bq):=bif Av s then (let r:=A0d 0 s.1 ([],false,[]); K4 r.2.1 r.1 r.2.2) else []
section
theorem Aj {n:Int} (h0:-9223372036854775808≤n) (h1:n < 9223372036854775808):IntKind.i64.wrap n=n:=by
 have e:IntKind.i64.wrap n=if n % 18446744073709551616≥9223372036854775808 then n % 18446744073709551616 - 18446744073709551616 else n % 18446744073709551616:=by
  simp [IntKind.wrap,IntKind.bits,IntKind.signed]
 rw [e]
 split<;>omega
theorem L1 {α:Type} (xs:List α) (i:Nat) (z:α) (h:i < xs.length):xs.drop i=xs.getD i z::xs.drop (i + 1):=by
 rw [List.drop_eq_getElem_cons h]
 simp [List.getD,List.getElem?_eq_getElem h]
theorem N2 {α:Type} {xs:List α} {i:Nat} (z:α) (h:i < xs.length):xs.getD i z∈xs:=by
 simp [List.getD,List.getElem?_eq_getElem h]
theorem Qv {i n:Nat} (h:i < n):decide ((i:Int) < nI n)=true:=by simp [nI]; omega
theorem Jx {n:Nat}:decide ((n:Int) < nI n)=false:=by simp [nI]
theorem Gt {i:Nat}:decide ((0:Int)≤(i:Int))=true:=by simp
theorem A9d {i n:Nat} (h:i < n):decide (i < n)=true:=by simp [h]
theorem wI {i:Nat} (h:i < 4611686018427387904):IntKind.i64.wrap ((i:Int) + 1)=((i + 1:Nat):Int):=by rw [Aj (by omega) (by omega)]; rfl
theorem Ao3 {α E:Type} {xs:List α} (z:α) (w:α→Nat) {g:Nat→Int→Int→Option E} {ok:Int→E} {bad:E}
  (hs:∀ m (i:Nat) l,i < xs.length→0≤l→l≤1048576→g (m + 1) l i=bif decide (l - (w (xs.getD i z):Int) < 0) then some bad else g m (l - w (xs.getD i z)) ((i + 1:Nat):Int))
  (he:∀ m l,g (m + 1) l (xs.length:Int)=some (ok l)):
  ∀ (m i:Nat) (l:Int),i≤xs.length→xs.length - i < m→0≤l→l≤1048576→g m l i=some (if l - (((xs.drop i).map w).sum:Int) < 0 then bad else ok (l - ((xs.drop i).map w).sum))
 | 0,i,l,hi,hm,_,_=>by omega
 | m + 1,i,l,hi,hm,h0,h1=>by
  by_cases h:i < xs.length
  ·rw [hs m i l h h0 h1,L1 xs i z h,List.map_cons,List.sum_cons,Int.natCast_add (w (xs.getD i z))]
   by_cases q:l - (w (xs.getD i z):Int) < 0
   ·have q2:l - ((w (xs.getD i z):Int) + (((xs.drop (i + 1)).map w).sum:Int)) < 0:=by omega
    rw [Ap q,cond_true,if_pos q2]
   ·rw [Bd q,cond_false,Ao3 z w hs he m (i + 1) _ (by omega) (by omega) (by omega) (by omega)]
    simp only [Int.sub_sub]
  ·have:i=xs.length:=by omega
   subst this
   rw [he]
   simp only [List.drop_length,List.map_nil,List.sum_nil]
   have:¬ (l - ((0:Nat):Int) < 0):=by simp; omega
   rw [if_neg this]
   simp
theorem Ao4 {α E:Type} {xs:List α} (z:α) {g:Nat→Int→List α→Option E} {ok:List α→E}
  (hs:∀ m (i:Nat) (r:List α),i < xs.length→r.length=xs.length→g (m + 1) i r=g m ((i + 1:Nat):Int) (r.set i (xs.getD i z)))
  (he:∀ m r,g (m + 1) (xs.length:Int) r=some (ok r)):
  ∀ (m i:Nat) (r:List α),i≤xs.length→xs.length - i < m→r.length=xs.length→g m i r=some (ok (r.take i++xs.drop i))
 | 0,i,l,hi,hm,_=>by omega
 | m + 1,i,r,hi,hm,hr=>by
  by_cases h:i < xs.length
  ·rw [hs m i r h hr,Ao4 z hs he m (i + 1) _ (by omega) (by omega) (by simp [hr]),L1 xs i z h]
   have:(r.set i (xs.getD i z)).take (i + 1)=r.take i++[xs.getD i z]:=by
    rw [List.take_add_one,List.take_set_of_le (Nat.le_refl i),List.getElem?_set_self (by omega)]
    rfl
   rw [this,List.append_assoc]
   rfl
  ·have:i=xs.length:=by omega
   subst this
   rw [he,List.drop_length,List.append_nil,← hr,List.take_length]
theorem Ao5 {α:Type} {f:α→α→Bool}:∀ {xs ys:List α},xs.length≠ys.length→eqL f xs ys=false
 | [],[],h=>absurd rfl h
 | [],_::_,_=>rfl
 | _::_,[],_=>rfl
 | x::xs,y::ys,h=>by
  simp only [eqL]
  rw [Ao5 (by simpa using h),Bool.and_false]
theorem Ao6 {α E:Type} {xs ys:List α} (z:α) (f:α→α→Bool) {g:Nat→Int→Option E} {ok bad:E} (hl:ys.length=xs.length)
  (hs:∀ m (i:Nat),i < xs.length→g (m + 1) i=bif f (xs.getD i z) (ys.getD i z) then g m ((i + 1:Nat):Int) else some bad)
  (he:∀ m,g (m + 1) (xs.length:Int)=some ok):
  ∀ (m i:Nat),i≤xs.length→xs.length - i < m→g m i=some (bif eqL f (xs.drop i) (ys.drop i) then ok else bad)
 | 0,i,hi,hm=>by omega
 | m + 1,i,hi,hm=>by
  by_cases h:i < xs.length
  ·rw [hs m i h,L1 xs i z h,L1 ys i z (by omega)]
   simp only [eqL]
   cases f (xs.getD i z) (ys.getD i z) with
   | false=>rfl
   | true=>
    rw [cond_true,Ao6 z f hl hs he m (i + 1) (by omega) (by omega),Bool.true_and]
  ·have:i=xs.length:=by omega
   subst this
   have hy:ys.drop xs.length=[]:=List.drop_eq_nil_of_le (by omega)
   rw [he,List.drop_length,hy]
   rfl
theorem L2 {E:Type} {n:Nat} {g:Nat→Int→Option E} {ok bad:E} (p:Nat→Bool)
  (hs:∀ m (i:Nat),i < n→g (m + 1) i=bif p i then g m ((i + 1:Nat):Int) else some bad)
  (he:∀ m,g (m + 1) (n:Int)=some ok):
  ∀ (m i:Nat),i≤n→n - i < m→g m i=some (bif (List.range' i (n - i)).all p then ok else bad)
 | 0,i,hi,hm=>by omega
 | m + 1,i,hi,hm=>by
  by_cases h:i < n
  ·have e:n - i=(n - (i + 1)) + 1:=by omega
   rw [hs m i h,e,List.range'_succ,List.all_cons]
   cases p i with
   | false=>rfl
   | true=>
    rw [cond_true,L2 p hs he m (i + 1) (by omega) (by omega),Bool.true_and]
  ·have:i=n:=by omega
   subst this
   rw [he,Nat.sub_self]
   rfl
theorem Bi4 {a b c:Bool} (h:(a&&b&&c)=true):a=true∧b=true∧c=true:=by
 cases a<;>cases b<;>cases c<;>first | exact ⟨rfl,rfl,rfl⟩ | cases h
theorem C6 {a b:Bool} (h:(a&&b)=true):a=true∧b=true:=by
 cases a<;>cases b<;>first | exact ⟨rfl,rfl⟩ | cases h
theorem M5 {t:Ty} {xs:List t.D} (h:A5 (.sl t) xs=true):List.length xs < 1152921504606846976∧∀ x∈xs,A5 t x=true:=by
 obtain ⟨h1,h2⟩:=C6 h
 exact ⟨F0 h1,List.all_eq_true.1 h2⟩
theorem Xq {t:Ty} {xs:List t.D} (h:Dw (.sl t) xs=true):List.length xs≤1048576∧∀ x∈xs,Dw t x=true:=by
 obtain ⟨h1,h2⟩:=C6 h
 exact ⟨F0 h1,List.all_eq_true.1 h2⟩
theorem An {a b:Ty} {x:a.D×b.D} (h:A5 (.pair a b) x=true):A5 a x.1=true∧A5 b x.2=true:=C6 h
theorem Cb {a b:Ty} {x:a.D×b.D} (h:Dw (.pair a b) x=true):Dw a x.1=true∧Dw b x.2=true:=C6 h
theorem Ajo {x:Aa} (h:A5 .str x=true):ByteArray.size x < 1152921504606846976:=F0 h
theorem O9 {t:Ty} {x:t.D} {l r:Int} (h:szM t x l=some r):A5 t x=true∧0≤l∧l≤1048576∧(if l - (wt t x:Int) < 0 then -1 else l - (wt t x:Int))=r:=by
 unfold szM at h
 split at h
 ·rename_i hc
  obtain ⟨h1,h2,h3⟩:=Bi4 hc
  exact ⟨h1,F0 h2,F0 h3,Option.some.inj h⟩
 ·cases h
theorem Vp {t:Ty} {x:t.D} {l:Int} (h1:A5 t x=true) (h2:0≤l) (h3:l≤1048576):szM t x l=some (if l - (wt t x:Int) < 0 then -1 else l - (wt t x:Int)):=by
 unfold szM
 rw [if_pos (by rw [h1,Ap h2,Ap h3]; rfl)]
theorem Pa {t:Ty} {x r:t.D} (h:toM t x=some r):Dw t x=true∧x=r:=by
 unfold toM at h
 split at h
 ·exact ⟨by assumption,Option.some.inj h⟩
 ·cases h
theorem Adr {t:Ty} {x:t.D} (h:Dw t x=true):toM t x=some x:=if_pos h
theorem N3 {t:Ty} {x y:t.D} {r:Bool} (h:eqM t x y=some r):A5 t x=true∧A5 t y=true∧Pt t x y=r:=by
 unfold eqM at h
 split at h
 ·rename_i hc
  obtain ⟨h1,h2⟩:=C6 hc
  exact ⟨h1,h2,Option.some.inj h⟩
 ·cases h
theorem Vq {t:Ty} {x y:t.D} (h1:A5 t x=true) (h2:A5 t y=true):eqM t x y=some (Pt t x y):=by
 unfold eqM
 rw [if_pos (by rw [h1,h2]; rfl)]
theorem Av7 (a b:Int):(a != b)=!eqI a b:=by
 unfold eqI
 by_cases h:a=b<;>simp [h,bne]
theorem Lz {α:Type} {r:List α} {i:Nat} {x z:α} (h:i < r.length):(r.set i x).getD i z=x:=by
 simp [List.getD,h]
theorem Ajp {α E:Type} (e:Int→α) (c:Nat) {n:Nat} {K:Int} {g:Nat→Int→Int→List α→Option E} {ok:Int→List α→E}
  (hs:∀ m (i:Nat) (k:Int) (r:List α),i < n→r.length=n→1≤k→k + (n - i:Nat) * c≤K→g (m + 1) k i r=g m (k + c) ((i + 1:Nat):Int) (r.set i (e k)))
  (he:∀ m k r,r.length=n→g (m + 1) k (n:Int) r=some (ok k r)):
  ∀ (m i:Nat) (k:Int) (r:List α),i≤n→n - i < m→r.length=n→1≤k→k + (n - i:Nat) * c≤K→g m k i r=some (ok (k + (n - i:Nat) * c) (r.take i++gL e c (n - i) k))
 | 0,i,k,r,hi,hm,_,_,_=>by omega
 | m + 1,i,k,r,hi,hm,hr,h1,hK=>by
  by_cases h:i < n
  ·have q:n - i=(n - (i + 1)) + 1:=by omega
   have hK2:k + (c:Int) + (n - (i + 1):Nat) * c=k + (n - i:Nat) * c:=by
    rw [q,Int.natCast_add,Int.add_mul]
    simp only [Int.natCast_one,Int.one_mul]
    omega
   rw [hs m i k r h hr h1 hK,Ajp e c hs he m (i + 1) _ _ (by omega) (by omega) (by simp [hr]) (by omega) (by rw [hK2]; exact hK),hK2]
   have h2:(r.set i (e k)).take (i + 1)=r.take i++[e k]:=by
    rw [List.take_add_one,List.take_set_of_le (Nat.le_refl i),List.getElem?_set_self (by omega)]
    rfl
   rw [h2,List.append_assoc]
   have h3:gL e c (n - i) k=e k::gL e c (n - (i + 1)) (k + c):=by rw [q]; rfl
   rw [h3]
   rfl
  ·have:i=n:=by omega
   subst this
   rw [he _ _ _ hr,Nat.sub_self]
   simp [gL,← hr]
theorem A5g {α E:Type} {xs:List α} (z:α) (f:α→α→Bool) (e:Int→α) (c:Nat) {K:Int} {g:Nat→Int→Int→Option E} {ok:Int→E} {bad:E}
  (hs:∀ m (i:Nat) (k:Int),i < xs.length→1≤k→k + (xs.length - i:Nat) * c≤K→g (m + 1) k i=bif f (xs.getD i z) (e k) then g m (k + c) ((i + 1:Nat):Int) else some bad)
  (he:∀ m k,g (m + 1) k (xs.length:Int)=some (ok k)):
  ∀ (m i:Nat) (k:Int),i≤xs.length→xs.length - i < m→1≤k→k + (xs.length - i:Nat) * c≤K→g m k i=some (bif eqL f (xs.drop i) (gL e c (xs.length - i) k) then ok (k + (xs.length - i:Nat) * c) else bad)
 | 0,i,k,hi,hm,_,_=>by omega
 | m + 1,i,k,hi,hm,h1,hK=>by
  by_cases h:i < xs.length
  ·have q:xs.length - i=(xs.length - (i + 1)) + 1:=by omega
   have hK2:k + (c:Int) + (xs.length - (i + 1):Nat) * c=k + (xs.length - i:Nat) * c:=by
    rw [q,Int.natCast_add,Int.add_mul]
    simp only [Int.natCast_one,Int.one_mul]
    omega
   have h3:gL e c (xs.length - i) k=e k::gL e c (xs.length - (i + 1)) (k + c):=by rw [q]; rfl
   rw [hs m i k h h1 hK,L1 xs i z h,h3]
   simp only [eqL]
   cases f (xs.getD i z) (e k) with
   | false=>rfl
   | true=>rw [cond_true,A5g z f e c hs he m (i + 1) _ (by omega) (by omega) (by omega) (by rw [hK2]; exact hK),hK2,Bool.true_and]
  ·have:i=xs.length:=by omega
   subst this
   rw [he,Nat.sub_self,List.drop_length]
   simp [gL,eqL]
theorem Bcd {α:Type} (e:Int→α) (c:Nat):∀ n k,(gL e c n k).length=n
 | 0,_=>rfl
 | n + 1,k=>by simp [gL,Bcd e c n]
theorem Amd {t:Ty} {xs:List t.D} {k:Int} {r:Int×List t.D} (h:It t xs k=some r):1≤k∧k≤1125899906842624∧List.length xs≤1125899906842624∧(k + List.length xs * mkN t,mkL t (List.length xs) k)=r:=by
 unfold It at h
 split at h
 ·rename_i hc
  obtain ⟨h1,h2,h3⟩:=Bi4 hc
  exact ⟨F0 h1,F0 h2,F0 h3,Option.some.inj h⟩
 ·cases h
theorem A9e {t:Ty} {xs:List t.D} {k:Int} (h1:1≤k) (h2:k≤1125899906842624) (h3:List.length xs≤1125899906842624):It t xs k=some (k + List.length xs * mkN t,mkL t (List.length xs) k):=by
 unfold It
 rw [if_pos (by rw [Ap h1,Ap h2,Ap h3]; rfl)]
theorem Bce {t:Ty} {xs:List t.D} {k:Int} {r:Int} (h:Aa3 t xs k=some r):1≤k∧k≤1125899906842624∧List.length xs≤1125899906842624∧(if Pt (.sl t) xs (mkL t (List.length xs) k)=true then k + List.length xs * mkN t else -1)=r:=by
 unfold Aa3 at h
 split at h
 ·rename_i hc
  obtain ⟨h1,h2,h3⟩:=Bi4 hc
  exact ⟨F0 h1,F0 h2,F0 h3,Option.some.inj h⟩
 ·cases h
theorem Bhg {t:Ty} {xs:List t.D} {k:Int} (h1:1≤k) (h2:k≤1125899906842624) (h3:List.length xs≤1125899906842624):Aa3 t xs k=some (if Pt (.sl t) xs (mkL t (List.length xs) k)=true then k + List.length xs * mkN t else -1):=by
 unfold Aa3
 rw [if_pos (by rw [Ap h1,Ap h2,Ap h3]; rfl)]
theorem Agx (n c:Nat):decide (nI n > (c:Int))=!decide (n≤c):=by
 by_cases q:n≤c
 ·have:¬ (nI n > (c:Int)):=by simp [nI]; omega
  rw [Ap q,Bd this]; rfl
 ·have:nI n > (c:Int):=by simp [nI]; omega
  rw [Bd q,Ap this]; rfl
theorem Be7 (n c:Nat):(nI n != (c:Int))=!decide (n=c):=by
 by_cases q:n=c
 ·subst q; simp [nI]
 ·have:¬ (nI n=(c:Int)):=by simp [nI]; omega
  rw [Bd q,Av7]; unfold eqI; rw [Bd this]
theorem gt0 (i:Nat):decide ((i:Int) > 0)=!(i==0):=by
 cases i with
 | zero=>rfl
 | succ j=>
  have:((j + 1:Nat):Int) > 0:=by omega
  rw [Ap this]; rfl
theorem wP (j:Nat) (h:j < 4611686018427387904):IntKind.i64.wrap (((j + 1:Nat):Int) - 1)=(j:Int):=by rw [Aj (by omega) (by omega)]; omega
theorem Ayo:∀ {t:Ty} {x:t.D},Ao0 t x→A5 t x=true
 | .int _,_,_=>rfl
 | .bool,_,_=>rfl
 | .str,s,h=>by
  have h:ByteArray.size s≤reachBytes:=h
  have:reachBytes < 1152921504606846976:=by decide
  exact Ap (by omega)
 | .sl t,xs,h=>by
  obtain ⟨h1,h2⟩:=h
  have:reachBytes < 1152921504606846976:=by decide
  show (decide (List.length xs < 1152921504606846976)&&List.all xs (A5 t))=true
  rw [Ap (by omega),Bool.true_and]
  refine List.all_eq_true.2 fun x hx=>?_
  obtain ⟨i,hi,rfl⟩:=List.mem_iff_getElem.1 hx
  exact Ayo (h2 i _ (List.getElem?_eq_getElem hi))
 | .unit,_,_=>rfl
 | .pair a b,x,h=>by
  show (A5 a x.1&&A5 b x.2)=true
  rw [Ayo h.1,Ayo h.2]
  rfl
theorem Bdr {α:Type} (f:α→Nat):∀ {xs:List α} {x:α},x∈xs→f x≤(xs.map f).sum
 | [],_,h=>by cases h
 | y::r,x,h=>by
  rw [List.map_cons,List.sum_cons]
  rcases List.mem_cons.1 h with rfl | h
  ·omega
  ·have:=Bdr f h
   omega
theorem Ao7:∀ {t:Ty} {x:t.D},wt t x≤1048576→Dw t x=true
 | .int _,_,_=>rfl
 | .bool,_,_=>rfl
 | .str,_,_=>rfl
 | .sl t,xs,h=>by
  have h:List.length xs + (List.map (wt t) xs).sum≤1048576:=h
  show (decide (List.length xs≤1048576)&&List.all xs (Dw t))=true
  rw [Ap (by omega),Bool.true_and]
  refine List.all_eq_true.2 fun x hx=>Ao7 ?_
  have:=Bdr (wt t) hx
  omega
 | .unit,_,_=>rfl
 | .pair a b,x,h=>by
  have h:wt a x.1 + wt b x.2≤1048576:=h
  show (Dw a x.1&&Dw b x.2)=true
  rw [Ao7 (by omega),Ao7 (by omega)]
  rfl
theorem A0e {α:Type} {f:α→α→Bool} (h:∀ x,f x x=true):∀ xs,eqL f xs xs=true
 | []=>rfl
 | x::r=>by simp only [eqL,h,A0e h r,Bool.and_self]
theorem Bhh (x:Int):eqI x x=true:=Ap rfl
theorem Bhi (x:Bool):eqO x x=true:=by cases x<;>rfl
theorem Bhj (x:Aa):eqS x x=true:=by unfold eqS; simp
theorem Aa5:∀ (t:Ty) (x:t.D),Pt t x x=true
 | .int _,x=>Bhh x
 | .bool,x=>Bhi x
 | .str,x=>Bhj x
 | .sl t,xs=>A0e (Aa5 t) xs
 | .unit,_=>rfl
 | .pair a b,x=>by
  show (Pt a x.1 x.1&&Pt b x.2 x.2)=true
  rw [Aa5,Aa5]
  rfl
theorem A9f {t:Ty} {x:t.D} (h:A5 t x=true):eqM t x x=some true:=(Vq h h).trans (congrArg some (Aa5 t x))
theorem Bhk {t:Ty} {x:t.D} {l0:Int} (h:A5 t x=true) (h0:0≤l0) (h1:l0≤1048576) {m:Option Int} (hm:m=szM t x l0):
  m=some (-1)∨∃ l:Int,m=some l∧0≤l∧l≤1048576∧Dw t x=true∧decide (l < 0)=false:=by
 subst hm
 rw [Vp h h0 h1]
 by_cases q:l0 - (wt t x:Int) < 0
 ·rw [if_pos q]; exact .inl rfl
 ·rw [if_neg q]
  exact .inr ⟨_,rfl,by omega,by omega,Ao7 (by omega),Bd q⟩
theorem Blc:decide ((-1:Int) < 0)=true:=rfl
theorem Ame {α E F:Type} (f:E→F) (p:α→Bool) (out:α→E) (ok:E):∀ l,f (Aac p out ok l)=Aac p (fun x=>f (out x)) (f ok) l
 | []=>rfl
 | x::r=>by
  simp only [Aac]
  cases p x with
  | true=>rfl
  | false=>exact Ame f p out ok r
theorem A0f {α E:Type} {xs:List α} (z:α) (p:α→Bool) (out:α→E) {g:Nat→Int→Option E} {ok:E}
  (hs:∀ m (i:Nat),i < xs.length→g (m + 1) i=bif p (xs.getD i z) then some (out (xs.getD i z)) else g m ((i:Int) - 1))
  (he:∀ m,g (m + 1) (-1)=some ok):
  ∀ (m i:Nat),i≤xs.length→i < m→g m ((i:Int) - 1)=some (Aac p out ok (xs.take i).reverse)
 | 0,i,hi,hm=>by omega
 | m + 1,0,hi,hm=>by
  rw [show ((0:Nat):Int) - 1=-1 from rfl,he]
  rfl
 | m + 1,i + 1,hi,hm=>by
  have e:(((i + 1:Nat):Int) - 1)=(i:Int):=by omega
  have h:i < xs.length:=by omega
  have e2:(xs.take (i + 1)).reverse=xs.getD i z::(xs.take i).reverse:=by
   rw [List.take_add_one,List.getElem?_eq_getElem h,Option.toList_some,List.reverse_append,List.reverse_singleton]
   simp [List.getD,List.getElem?_eq_getElem h]
  rw [e,hs m i h,e2]
  simp only [Aac]
  cases p (xs.getD i z) with
  | true=>rfl
  | false=>rw [cond_false,cond_false,A0f z p out hs he m i (by omega) (by omega)]
theorem A5h {α σ E:Type} {xs:List α} (z:α) (Inv:σ→Prop) (step:Nat→α→σ→σ) {g:Nat→Int→σ→Option E} {ok:σ→E}
  (hs:∀ m (i:Nat) s,i < xs.length→Inv s→g (m + 1) i s=g m ((i + 1:Nat):Int) (step i (xs.getD i z) s))
  (hi:∀ i s,i < xs.length→Inv s→Inv (step i (xs.getD i z) s))
  (he:∀ m s,Inv s→g (m + 1) (xs.length:Int) s=some (ok s)):
  ∀ (m i:Nat) s,i≤xs.length→xs.length - i < m→Inv s→g m i s=some (ok (Gu step i (xs.drop i) s))
 | 0,i,s,_,hm,_=>by omega
 | m + 1,i,s,hl,hm,hI=>by
  by_cases h:i < xs.length
  ·rw [hs m i s h hI,A5h z Inv step hs hi he m (i + 1) _ (by omega) (by omega) (hi i s h hI),L1 xs i z h]
   rfl
  ·have:i=xs.length:=by omega
   subst this
   rw [he _ _ hI,List.drop_length]
   rfl
theorem Asi {α σ:Type} (Inv:σ→Prop) (step:Nat→α→σ→σ):∀ (l:List α) (i:Nat) (s:σ),(∀ i s x,x∈l→Inv s→Inv (step i x s))→Inv s→Inv (Gu step i l s)
 | [],_,_,_,h=>h
 | x::r,i,s,hs,h=>Asi Inv step r (i + 1) _ (fun i s y hy=>hs i s y (List.mem_cons_of_mem _ hy)) (hs i s x (by simp) h)
theorem A5i {α σ:Type} (step:Nat→α→σ→σ):∀ (l:List α) (i:Nat) (s:σ) (x:α),Gu step i (l++[x]) s=step (i + l.length) x (Gu step i l s)
 | [],i,s,x=>rfl
 | y::r,i,s,x=>by
  show Gu step (i + 1) (r++[x]) _=_
  rw [A5i step r]
  show step (i + 1 + r.length) x _=step (i + (r.length + 1)) x _
  rw [show i + 1 + r.length=i + (r.length + 1) by omega]
  rfl
theorem Aa6 {n:Nat} {p:Nat→Bool} (h:(List.range' 0 n).all p=true) (i:Nat) (hi:i < n):p i=true:=List.all_eq_true.1 h i (by simp [List.mem_range']; omega)
theorem G3 {s:Aa} {a b:Int} (h0:0≤a) (h1:a≤b) (h2:b≤(s.size:Int)):(Ao s a b).size=(b - a).toNat:=by
 unfold Ao
 rw [ByteArray.size_extract]
 omega
structure P5 (d:Dk):Prop where
 n8:8≤d.1.length
 n200:d.1.length≤200
 p300:d.2.1.length≤300
 sec:∀ i,i < d.1.length→(d.1.getD i z0).size=64
 pen:∀ i,i < d.2.1.length→0≤(d.2.1.getD i zW).1∧(d.2.1.getD i zW).1 < (d.1.length:Int)∧(d.2.1.getD i zW).2.1.size=64
theorem Ajq {d:Dk} (h:B1 d=true):P5 d:=by
 obtain ⟨h1,h2⟩:=C6 h
 obtain ⟨h2,h3⟩:=C6 h2
 obtain ⟨h3,h4⟩:=C6 h3
 obtain ⟨k1,k2⟩:=C6 h1
 have k1:=F0 k1
 have k2:=F0 k2
 refine ⟨by omega,by omega,F0 h2,fun i hi=>F0 (Aa6 h3 i hi),fun i hi=>?_⟩
 obtain ⟨q1,q2⟩:=C6 (Aa6 h4 i hi)
 obtain ⟨q2,q3⟩:=C6 q2
 exact ⟨F0 q1,F0 q2,F0 q3⟩
theorem Agy {α:Type} {xs:List α} {x:α} (z:α) (h:x∈xs):∃ i,i < xs.length∧xs.getD i z=x:=by
 obtain ⟨i,hi,rfl⟩:=List.mem_iff_getElem.1 h
 exact ⟨i,hi,by simp [List.getD,List.getElem?_eq_getElem hi]⟩
theorem getD_set_ne {α:Type} {r:List α} {i j:Nat} {x z:α} (h:i≠j):(r.set i x).getD j z=r.getD j z:=by
 simp [List.getD,List.getElem?_set_ne h]
theorem Xi (sec:List Aa) (ws:List Wr):(O2 sec ws).length=sec.length:=
 Asi (fun s=>s.length=sec.length) _ ws 0 sec (fun i s w _ h=>by rw [List.length_set]; exact h) rfl
theorem A9g (sec:List Aa) (i:Nat) (hi:i < sec.length) (ws:List Wr) (h:∀ w∈ws,0≤w.1):
  (O2 sec ws).getD i z0=Aac (fun w=>w.1==(i:Int)) (fun w=>w.2.1) (sec.getD i z0) ws.reverse:=by
 have key:∀ (rs:List Wr),(∀ w∈rs,0≤w.1)→(O2 sec rs.reverse).getD i z0=Aac (fun w=>w.1==(i:Int)) (fun w=>w.2.1) (sec.getD i z0) rs:=by
  intro rs
  induction rs with
  | nil=>intro _; rfl
  | cons w r ih=>
   intro hr
   have ih:=ih (fun v hv=>hr v (List.mem_cons_of_mem _ hv))
   have h0:=hr w (by simp)
   rw [List.reverse_cons]
   unfold O2 at ih ⊢
   rw [A5i]
   simp only [Aac]
   have hlen:(Gu (fun _ (w:Wr) (s:List Aa)=>s.set w.1.toNat w.2.1) 0 r.reverse sec).length=sec.length:=Xi sec r.reverse
   by_cases q:w.1=(i:Int)
   ·have q2:w.1.toNat=i:=by omega
    rw [q2,Lz (by rw [hlen]; exact hi),q,beq_self_eq_true,cond_true]
   ·have q2:w.1.toNat≠i:=by omega
    rw [getD_set_ne q2,ih,show (w.1==(i:Int))=false from by simp [q],cond_false]
 have:=key ws.reverse (fun w hw=>h w (List.mem_reverse.1 hw))
 rwa [List.reverse_reverse] at this
def A9h (n:Nat) (s:List Aa):Prop:=s.length=n∧∀ i,i < n→(s.getD i z0).size=64
theorem A9h.set {n:Nat} {s:List Aa} (h:A9h n s) {j:Nat} {x:Aa} (hx:x.size=64):A9h n (s.set j x):=by
 refine ⟨by rw [List.length_set]; exact h.1,fun i hi=>?_⟩
 by_cases q:j=i
 ·subst q
  rw [Lz (by rw [h.1]; exact hi)]
  exact hx
 ·rw [getD_set_ne q]
  exact h.2 i hi
def Uy:(t:Ty)→t.D→Bool
 | .int _,_=>true
 | .bool,_=>true
 | .str,s=>decide (ByteArray.size s≤1073741824)
 | .sl t,xs=>decide (List.length xs≤1073741824)&&List.all xs (Uy t)
 | .unit,_=>true
 | .pair a b,x=>Uy a x.1&&Uy b x.2
theorem Ajr:∀ {t:Ty} {x:t.D},Uy t x=true→A5 t x=true
 | .int _,_,_=>rfl
 | .bool,_,_=>rfl
 | .str,s,h=>Ap (by have:=F0 (show decide (ByteArray.size s≤1073741824)=true from h); show ByteArray.size s < _; omega)
 | .sl t,xs,h=>by
  have h:(decide (List.length xs≤1073741824)&&List.all xs (Uy t))=true:=h
  obtain ⟨h1,h2⟩:=C6 h
  show (decide (List.length xs < 1152921504606846976)&&List.all xs (A5 t))=true
  rw [Ap (by have:=F0 h1; omega),Bool.true_and]
  exact List.all_eq_true.2 fun a ha=>Ajr (List.all_eq_true.1 h2 a ha)
 | .unit,_,_=>rfl
 | .pair a b,x,h=>by
  have h:(Uy a x.1&&Uy b x.2)=true:=h
  obtain ⟨h1,h2⟩:=C6 h
  show (A5 a x.1&&A5 b x.2)=true
  rw [Ajr h1,Ajr h2]; rfl
theorem Bds (t:Ty) (n:Nat) (k:Int):List.length (mkL t n k)=n:=Bcd _ _ _ _
section
variable {α:Type} {mk:Nat→Int→List α} {c:Nat}
theorem A0g:∀ (xs:List (List α)) (k:Int),(Vo mk c xs k).length=xs.length
 | [],_=>rfl
 | x::r,k=>by simp [Vo,A0g r]
theorem Au0 (hm:∀ n k,(mk n k).length=n):∀ (xs:List (List α)) (k:Int),O8 (Vo mk c xs k)=O8 xs
 | [],_=>rfl
 | x::r,k=>by simp only [Vo,O8,hm,Au0 hm r]
theorem Ao8 (hm:∀ n k,(mk n k).length=n):∀ (xs:List (List α)) (k:Int),Vo mk c (Vo mk c xs k) k=Vo mk c xs k
 | [],_=>rfl
 | x::r,k=>by simp only [Vo,hm,Ao8 hm r]
end
theorem Bhl (t:Ty) (x:List t.D):eqR t x x=true:=Aa5 (.sl t) x
theorem Bld {k:Int} {n m:Nat} (h:(decide (1≤k)&&decide (k≤562949953421312)&&decide (n≤1099511627776)&&decide (m≤281474976710656))=true):1≤k∧k≤562949953421312∧n≤1099511627776∧m≤281474976710656:=by
 obtain ⟨h,h4⟩:=C6 h
 obtain ⟨h1,h2,h3⟩:=Bi4 h
 exact ⟨F0 h1,F0 h2,F0 h3,F0 h4⟩
theorem A9i {t:Ty} {xs:List (List t.D)} {k:Int} {r:Int×List (List t.D)} (h:Agu t xs k=some r):1≤k∧k≤562949953421312∧xs.length≤1099511627776∧O8 xs * mkN t≤281474976710656∧(k + O8 xs * mkN t,A3h t xs k)=r:=by
 unfold Agu at h
 split at h
 ·rename_i hc
  obtain ⟨h1,h2,h3,h4⟩:=Bld hc
  exact ⟨h1,h2,h3,h4,Option.some.inj h⟩
 ·cases h
theorem Be8 {t:Ty} {xs:List (List t.D)} {k:Int} (h1:1≤k) (h2:k≤562949953421312) (h3:xs.length≤1099511627776) (h4:O8 xs * mkN t≤281474976710656):Agu t xs k=some (k + O8 xs * mkN t,A3h t xs k):=by
 unfold Agu
 rw [if_pos (by rw [Ap h1,Ap h2,Ap h3,Ap h4]; rfl)]
theorem Be9 {t:Ty} {xs:List (List t.D)} {k:Int} (h1:1≤k) (h2:k≤562949953421312) (h3:xs.length≤1099511627776) (h4:O8 xs * mkN t≤281474976710656):A6z t xs k=some (if eqL (eqR t) xs (A3h t xs k)=true then k + O8 xs * mkN t else -1):=by
 unfold A6z
 rw [if_pos (by rw [Ap h1,Ap h2,Ap h3,Ap h4]; rfl)]
theorem Bi5 {t:Ty} {xs:List (List t.D)} {k:Int} (c:Nat) (hc:mkN t=c) (h1:1≤k) (h2:k≤562949953421312) (h3:xs.length≤1073741824) (h4:O8 xs≤2199023255552) (h5:c≤100):
  ∃ k' ys,Agu t xs k=some (k',ys)∧k≤k'∧k'≤k + 2199023255552 * (c:Int)∧A6z t ys k=some k':=by
 have h6:O8 xs * mkN t≤281474976710656:=by
  rw [hc]
  exact Nat.le_trans (Nat.mul_le_mul h4 h5) (by decide)
 have e1:O8 (A3h t xs k)=O8 xs:=Au0 (Bds t) xs k
 have e2:(A3h t xs k).length=xs.length:=A0g xs k
 have e3:A3h t (A3h t xs k) k=A3h t xs k:=Ao8 (Bds t) xs k
 refine ⟨_,_,Be8 h1 h2 (by omega) h6,?_,?_,?_⟩
 ·have:(0:Int)≤(O8 xs:Int) * (mkN t:Int):=Int.mul_nonneg (by omega) (by omega)
  omega
 ·rw [hc]
  have:(O8 xs:Int) * (c:Int)≤2199023255552 * (c:Int):=Int.mul_le_mul_of_nonneg_right (by omega) (by omega)
  omega
 ·rw [Be9 h1 h2 (by rw [e2]; omega) (by rw [e1]; exact h6),e1,e3]
  exact congrArg some (if_pos (A0e (Bhl t) _))
section
variable {α E:Type} {mk:Nat→Int→List α} {c:Nat}
theorem Bhm (x:List α) (r:List (List α)) (c:Nat):((O8 (x::r):Nat):Int) * (c:Int)=(x.length:Int) * c + O8 r * c:=by
 show (((x.length + O8 r:Nat):Int)) * _=_
 rw [Int.natCast_add,Int.add_mul]
theorem Bi6 (n:Nat) {c:Nat} (h:1≤c):(n:Int)≤(n:Int) * c:=by
 have:=Int.mul_le_mul_of_nonneg_left (c:=(n:Int)) (show (1:Int)≤c by omega) (by omega)
 omega
theorem Au1 {g:Nat→Int→Int→List (List α)→Option E} {ok:Int→List (List α)→E}
  (hs:∀ m (i:Nat) (k:Int) (r:List (List α)) (x:List α),i < r.length→r.length < 4611686018427387904→r.getD i []=x→1≤k→k + x.length * c≤1125899906842624→x.length≤1125899906842624→g (m + 1) k i r=g m (k + x.length * c) ((i + 1:Nat):Int) (r.set i (mk x.length k)))
  (he:∀ m k (r:List (List α)),g (m + 1) k (r.length:Int) r=some (ok k r)) (h0:1≤c):
  ∀ (rest pre:List (List α)) (m:Nat) (k:Int),rest.length < m→pre.length + rest.length < 4611686018427387904→1≤k→k + O8 rest * c≤1125899906842624→g m k (pre.length:Int) (pre++rest)=some (ok (k + O8 rest * c) (pre++Vo mk c rest k))
 | [],pre,0,k,hm,_,_,_=>by omega
 | [],pre,m + 1,k,hm,_,_,_=>by
  have:=he m k pre
  simp only [O8,Vo,List.append_nil]
  rw [this]
  simp
 | x::r,pre,0,k,hm,_,_,_=>by omega
 | x::r,pre,m + 1,k,hm,hl,h1,hK=>by
  have hx:(pre++x::r).getD pre.length []=x:=by rw [List.getD_eq_getElem?_getD,List.getElem?_append_right (Nat.le_refl _),Nat.sub_self]; rfl
  have hT:=Bhm x r c
  have hr0:(0:Int)≤(O8 r:Int) * c:=Int.mul_nonneg (by omega) (by omega)
  have hx1:=Bi6 x.length h0
  rw [hs m pre.length k (pre++x::r) x (by simp) (by simpa using hl) hx h1 (by omega) (by omega)]
  have hset:(pre++x::r).set pre.length (mk x.length k)=(pre++[mk x.length k])++r:=by
   rw [List.set_append_right _ _ (Nat.le_refl _),Nat.sub_self]
   simp
  rw [hset]
  have hlen:((pre.length + 1:Nat):Int)=((pre++[mk x.length k]).length:Nat):=by simp
  simp only [List.length_cons] at hl hm
  rw [hlen,Au1 hs he h0 r (pre++[mk x.length k]) m _ (by omega) (by simp; omega) (by omega) (by omega)]
  rw [hT,List.append_assoc,Int.add_assoc]
  rfl
end
theorem Bfa {xs:List Dh} (h:Dw (.sl B6) xs=true):(xs.map Prod.fst).length≤1048576∧O8 (xs.map Prod.fst)≤1099511627776:=by
 obtain ⟨h1,h2⟩:=Xq h
 have key:∀ l:List Dh,(∀ x∈l,Dw B6 x=true)→O8 (l.map Prod.fst)≤l.length * 1048576:=fun l=>by
  induction l with
  | nil=>intro _; exact Nat.zero_le _
  | cons x r ih=>
   intro hl
   have q:=ih fun y hy=>hl y (List.mem_cons_of_mem _ hy)
   have q2:=(Xq (Cb (hl x (List.mem_cons_self ..))).1).1
   have q2:x.1.length≤1048576:=q2
   simp only [List.map_cons,O8,List.length_cons]
   omega
 have h1:xs.length≤1048576:=h1
 refine ⟨by rw [List.length_map]; exact h1,Nat.le_trans (key xs h2) ?_⟩
 exact Nat.le_trans (Nat.mul_le_mul_right _ h1) (by decide)
theorem Bkn (xs:List Dh):List.map (fun x=>(x,())) (List.map (fun s=>s.1) xs)=xs:=by
 rw [List.map_map]
 exact List.map_id' xs
theorem A9j {t:Ty} {xs:List t.D} {k:Int} (c:Nat) (hc:mkN t=c) (h1:1≤k) (h2:k≤1125899906842624) (h3:List.length xs≤1073741824):
  ∃ k' ys,It t xs k=some (k',ys)∧k≤k'∧k'≤k + 1073741824 * (c:Int)∧Aa3 t ys k=some k':=by
 refine ⟨_,_,A9e h1 h2 (by omega),?_,?_,?_⟩
 ·have:(0:Int)≤(List.length xs:Int) * (mkN t:Int):=Int.mul_nonneg (by omega) (by omega)
  omega
 ·rw [hc]
  have:(List.length xs:Int) * (c:Int)≤1073741824 * (c:Int):=Int.mul_le_mul_of_nonneg_right (by omega) (by omega)
  omega
 ·have hl:(mkL t (List.length xs) k).length=List.length xs:=Bcd _ _ _ _
  rw [Bhg h1 h2 (by omega),hl]
  exact congrArg some (if_pos (Aa5 (.sl t) _))
theorem d6 {α β:Type} {m:Option α} {f:α→Option β} {a:α} {r:Option β} (h:m=some a) (h2:f a=r):m.bind f=r:=by
 rw [h]; exact h2
theorem A9k {α:Type} {l:List α} {z:α} {P:α→Prop} (h:∀ i,i < l.length→P (l.getD i z)):∀ x∈l,P x:=by
 intro x hx
 obtain ⟨i,hi,rfl⟩:=List.mem_iff_getElem.1 hx
 have:=h i hi
 rw [List.getD_eq_getElem?_getD,List.getElem?_eq_getElem hi] at this
 exact this
theorem Akw (a b:List Int):strOfNums (a++b)=strOfNums a++strOfNums b:=by
 unfold strOfNums
 rw [List.map_append]
 apply ByteArray.ext
 simp
theorem Gb (a:List Int):(strOfNums a).size=a.length:=by
 unfold strOfNums
 show (List.toArray _).size=_
 simp
theorem Agz (v:Int):∀ n,(Q6 v n).length=n
 | 0=>rfl
 | n + 1=>by simp only [Q6,Lw,Agz (v / 256) n,Nz]
theorem L3 (v:Int) (n:Nat):(Dy v n).size=n:=by unfold Dy; rw [Gb,Agz]
theorem A9l (v:Int) (out:Aa):Dy v 0++out=out:=by
 apply ByteArray.ext
 simp [Dy,Q6,strOfNums]
theorem Bhn (s:Aa):s++Ac=s:=by
 apply ByteArray.ext
 simp
theorem A9m (v:Int) (k:Nat):Dy v (k + 1)=Dy (v / 256) k++strOfNums [v % 256]:=by
 unfold Dy
 rw [← Akw]
 rfl
theorem Ib (s:Aa) (i:Int):0≤Am s i∧Am s i < 256:=by
 unfold Am
 have:=(s.data.toList.getD i.toNat 0).toNat_lt
 omega
theorem Bdt:∀ i:Nat,i < 7→(256:Int) ^ i≤281474976710656:=by decide
theorem Bho (s:Aa) (i:Nat) {k:Nat} {v:Int} (hi:i + (k + 1)=s.size) (hs:i < 7) (h0:0≤v) (h1:v < 256 ^ i):
  0≤v * 256 + Am s i∧v * 256 + Am s i < 256 ^ (i + 1)∧IntKind.wrap IntKind.i64 (IntKind.wrap IntKind.i64 (v * 256) + IntKind.wrap IntKind.i64 (Am s i))=v * 256 + Am s i:=by
 obtain ⟨b0,b1⟩:=Ib s i
 have hp:(256:Int) ^ (i + 1)=256 ^ i * 256:=Int.pow_succ _ _
 have hle:(256:Int) ^ i≤281474976710656:=Bdt i hs
 refine ⟨by omega,by omega,?_⟩
 rw [Aj (n:=v * 256) (by omega) (by omega),Aj (n:=Am s i) (by omega) (by omega),Aj (by omega) (by omega)]
theorem Bi7 (s:Aa) (i:Nat) {k:Nat} {v:Int} (hi:i + (k + 1)=s.size) (hs:i < 7) (h0:0≤v) (h1:v < 256 ^ i):
  0≤v * 256 + Am s i∧v * 256 + Am s i < 256 ^ (i + 1)∧IntKind.wrap IntKind.i64 (nI (BitVec.toNat (BitVec.ofInt 64 (IntKind.wrap IntKind.i64 (v * 2 ^ min (Int.toNat 8) 64)) ||| BitVec.ofInt 64 (IntKind.wrap IntKind.i64 (Am s i)))))=v * 256 + Am s i:=by
 obtain ⟨b0,b1⟩:=Ib s i
 have hp:(256:Int) ^ (i + 1)=256 ^ i * 256:=Int.pow_succ _ _
 have hle:(256:Int) ^ i≤281474976710656:=Bdt i hs
 refine ⟨by omega,by omega,?_⟩
 have e8:(v * 2 ^ min (Int.toNat 8) 64:Int)=v * 256:=rfl
 rw [e8,Aj (n:=v * 256) (by omega) (by omega),Aj (n:=Am s i) (by omega) (by omega)]
 obtain ⟨n,rfl⟩:∃ n:Nat,v=(n:Int):=⟨v.toNat,by omega⟩
 obtain ⟨b,hb⟩:∃ b:Nat,Am s i=(b:Int):=⟨(Am s i).toNat,by omega⟩
 rw [hb] at b0 b1 ⊢
 have e1:BitVec.ofInt 64 ((n:Int) * 256)=BitVec.ofNat 64 (n * 256):=by
  rw [show ((n:Int) * 256)=((n * 256:Nat):Int) by omega]; exact BitVec.ofInt_natCast _ _
 have e2:BitVec.ofInt 64 (b:Int)=BitVec.ofNat 64 b:=BitVec.ofInt_natCast _ _
 rw [e1,e2,BitVec.toNat_or,BitVec.toNat_ofNat,BitVec.toNat_ofNat,Nat.mod_eq_of_lt (by omega),Nat.mod_eq_of_lt (by omega)]
 have e3:n * 256 ||| b=n * 256 + b:=by
  have:=Nat.shiftLeft_add_eq_or_of_lt (i:=8) (b:=b) (by omega) n
  rw [Nat.shiftLeft_eq] at this
  exact this.symm
 rw [e3]
 exact Aj (by simp only [nI]; omega) (by simp only [nI]; omega)
theorem Ajs {σ ρ:Type} (n:Nat) (Inv:Nat→σ→Prop) (step:Nat→σ→σ) {g:Nat→Nat→σ→Option ρ} {ok:σ→ρ}
  (hs:∀ m i s,i < n→Inv i s→g (m + 1) i s=g m (i + 1) (step i s)) (he:∀ m s,Inv n s→g (m + 1) n s=some (ok s))
  (hI:∀ i s,i < n→Inv i s→Inv (i + 1) (step i s)):∀ k m i s,i + k=n→k < m→Inv i s→g m i s=some (ok (iter step k i s))
 | 0,m + 1,i,s,hi,_,h=>by
  obtain rfl:i=n:=by omega
  exact he m s h
 | k + 1,m + 1,i,s,hi,hm,h=>by
  rw [hs m i s (by omega) h]
  exact Ajs n Inv step hs he hI k m (i + 1) _ (by omega) (by omega) (hI i s (by omega) h)
theorem A9n {σ:Type} (Inv:σ→Prop) (f:Nat→σ→σ) (hf:∀ i s,Inv s→Inv (f i s)):∀ k i s,Inv s→Inv (iter f k i s)
 | 0,_,_,h=>h
 | k + 1,i,s,h=>A9n Inv f hf k (i + 1) _ (hf i s h)
theorem wid (w:Int):(bif decide (w≥1) then some ((decide (w≤8),()),()) else some ((false,()),()))=(some ((Fg w 1 8,()),()):Option ((Bool×Unit)×Unit)):=by
 unfold Fg
 by_cases h:1≤w
 ·rw [Ap (show w≥1 from h)]; rfl
 ·rw [Bd (show ¬ w≥1 from h)]; rfl
theorem Bjx (k:Int):IntKind.wrap IntKind.u64 k=k % 18446744073709551616:=by
 simp [IntKind.wrap,IntKind.bits,IntKind.signed]
theorem Ble (k:Int):IntKind.i64.wrap k=if k % 18446744073709551616≥9223372036854775808 then k % 18446744073709551616 - 18446744073709551616 else k % 18446744073709551616:=by
 simp [IntKind.wrap,IntKind.bits,IntKind.signed]
def U64 (h:Int):Prop:=0≤h∧h < 18446744073709551616
theorem Bdu (s:Aa) (k i:Nat) {h:Int} (hh:U64 h):U64 (Ash s k i h):=
 A9n U64 _ (fun i s _=>by unfold Agw; rw [Bjx]; exact ⟨Int.emod_nonneg _ (by decide),Int.emod_lt_of_pos _ (by decide)⟩) k i h hh
theorem A0h:∀ (n:Nat) (v c:Int),Q6 (v + 256 ^ n * c) n=Q6 v n
 | 0,_,_=>rfl
 | n + 1,v,c=>by
  have e:v + 256 ^ (n + 1) * c=v + 256 * (256 ^ n * c):=by rw [Int.pow_succ,Int.mul_comm (256 ^ n) 256,Int.mul_assoc]
  simp only [Q6]
  rw [e]
  have e1:(v + 256 * (256 ^ n * c)) / 256=v / 256 + 256 ^ n * c:=by omega
  have e2:(v + 256 * (256 ^ n * c)) % 256=v % 256:=by omega
  rw [e1,e2,A0h n]
theorem A5j (n:Nat):∀ (w:Nat) (v:Int),(Q6 v (n + w)).drop n=Q6 v w
 | 0,v=>by rw [List.drop_eq_nil_of_le (by rw [Agz]; omega)]; rfl
 | w + 1,v=>by
  show (Q6 (v / 256) (n + w)++[v % 256]).drop n=_
  rw [List.drop_append_of_le_length (by rw [Agz]; omega),A5j n w]
  rfl
theorem Bhp (l:List Int) (a:Nat):Ao (strOfNums l) (a:Int) (nI (strOfNums l).size)=strOfNums (l.drop a):=by
 unfold Ao
 rw [Gb]
 apply ByteArray.ext
 simp [strOfNums,nI,List.map_drop]
 exact List.take_of_length_le (by simp)
theorem Bi9 {h w:Int} (hh:U64 h) (h1:1≤w) (h8:w≤8):Ao (Dy (IntKind.wrap IntKind.i64 h) (Int.toNat 8)) (8 - w) (nI (ByteArray.size (Dy (IntKind.wrap IntKind.i64 h) (Int.toNat 8))))=Dy h w.toNat:=by
 obtain ⟨n,rfl⟩:∃ n:Nat,w=(n:Int):=⟨w.toNat,by omega⟩
 have e8:Int.toNat 8=(8 - n) + n:=by omega
 have e:(8 - (n:Int))=((8 - n:Nat):Int):=by omega
 rw [e]
 unfold Dy
 have hd:Q6 (IntKind.wrap IntKind.i64 h) (Int.toNat 8)=Q6 h (Int.toNat 8):=by
  by_cases q:h < 9223372036854775808
  ·rw [Aj (by have:=hh.1; omega) q]
  ·have:IntKind.wrap IntKind.i64 h=h + 256 ^ 8 * (-1):=by
    have h6:(256:Int) ^ 8=18446744073709551616:=by decide
    have:=hh.2
    rw [h6]
    rw [Ble]
    split<;>omega
   rw [this]
   exact A0h 8 h (-1)
 rw [hd,Bhp,e8,A5j]
 rfl
theorem Aa7 {s:Aa} {w:Int} (h:Fg w 1 8=true):(Ao2 s w).size=w.toNat:=by
 unfold Ao2; rw [h]; exact L3 _ _
theorem Blw:∀ n:Nat,n≤64→Amc (ByteArray.mk #[0]) (n:Int)=some (strOfNums (List.replicate n 0)):=by decide +kernel
theorem X7 {p:Pg} {w:Int} (h:Mq p w=true):Fg w 1 8=true∧1≤w∧w≤8∧(p.2.2.2.1.size:Int)≤56 - w:=by
 obtain ⟨h1,h2⟩:=C6 h
 obtain ⟨_,h2⟩:=C6 h2
 obtain ⟨_,h2⟩:=C6 h2
 obtain ⟨_,h2⟩:=C6 h2
 exact ⟨h1,F0 (C6 h1).1,F0 (C6 h1).2,F0 (C6 h2).1⟩
theorem Iu {v lo hi:Int} (h:Fg v lo hi=true):lo≤v∧v≤hi:=⟨F0 (C6 h).1,F0 (C6 h).2⟩
theorem Ag0 {p:Pg} {w:Int} (h:Mq p w=true):(1≤p.1∧p.1≤4)∧(1≤p.2.1∧p.2.1≤60000)∧(1≤p.2.2.1∧p.2.2.1≤1000000000):=by
 obtain ⟨_,h2⟩:=C6 h
 obtain ⟨h3,h2⟩:=C6 h2
 obtain ⟨h4,h2⟩:=C6 h2
 obtain ⟨h5,h2⟩:=C6 h2
 exact ⟨Iu h3,Iu h4,Iu h5⟩
theorem A0i (x lo hi:Int) {ρ:Type} (f t:ρ):(bif decide (x < lo) then f else bif decide (x > hi) then f else t)=bif Fg x lo hi then t else f:=by
 unfold Fg
 by_cases h1:x < lo
 ·rw [Ap h1,Bd (show ¬ lo≤x by omega)]; rfl
 ·rw [Bd h1,Ap (show lo≤x by omega)]
  by_cases h2:x > hi
  ·rw [Ap h2,Bd (show ¬ x≤hi by omega)]; rfl
  ·rw [Bd h2,Ap (show x≤hi by omega)]; rfl
theorem A0j {α β:Type} (f:α→List β) (z:α) (xs:List α):∀ k i r,i + k=xs.length→iter (fun i r=>r++f (xs.getD i z)) k i r=r++((xs.drop i).map f).flatten
 | 0,i,r,h=>by
  rw [List.drop_eq_nil_of_le (by omega)]
  simp [iter]
 | k + 1,i,r,h=>by
  rw [L1 xs i z (by omega)]
  simp only [iter,List.map_cons,List.flatten_cons]
  rw [A0j f z xs k (i + 1) _ (by omega),List.append_assoc]
theorem Qw (a b:Aa):Ad (a++b)=Ad a++Ad b:=by
 unfold Ad
 simp
theorem Ds (s:Aa):(Ad s).length=s.size:=by
 unfold Ad
 rw [List.length_map]
 rfl
theorem P6 (l:List Int) (h:F2 l=true):Ad (strOfNums l)=l:=by
 unfold Ad strOfNums
 show (List.map _ (List.map _ l))=l
 rw [List.map_map]
 conv=>rhs; rw [← List.map_id l]
 refine List.map_congr_left fun x hx=>?_
 have:=List.all_eq_true.1 h x hx
 obtain ⟨h1,h2⟩:=C6 this
 have h1:=F0 h1
 have h2:=F0 h2
 show (((UInt8.ofNat x.toNat).toNat:Nat):Int)=x
 rw [UInt8.toNat_ofNat']
 rw [Nat.mod_eq_of_lt (by omega)]
 omega
theorem Xr (s:Aa):F2 (Ad s)=true:=by
 refine List.all_eq_true.2 fun x hx=>?_
 obtain ⟨b,_,rfl⟩:=List.mem_map.1 hx
 have:=b.toNat_lt
 show (decide (0≤(b.toNat:Int))&&decide ((b.toNat:Int) < 256))=true
 rw [Ap (by omega),Ap (by omega)]
 rfl
theorem I9 (a b:List Int):F2 (a++b)=(F2 a&&F2 b):=List.all_append
theorem Bja (n:Nat) (h:n < 256):Dy (nI n) 1=strOfNums [nI n]:=by
 unfold Dy
 simp only [Q6,List.nil_append]
 rw [show nI n % 256=nI n by simp only [nI]; omega]
theorem Ayp (n:Nat) (h:n < 256):F2 [nI n]=true:=by
 show ((decide (0≤nI n)&&decide (nI n < 256))&&true)=true
 rw [Ap (by simp only [nI]; omega),Ap (by simp only [nI]; omega)]
 rfl
theorem A9o (n:Nat) (h:n < 256):Ad (Dy (nI n) 1)=[nI n]:=by
 rw [Bja n h,P6 _ (Ayp n h)]
theorem Bjy (n:Nat) (h:n < 256):IntKind.wrap IntKind.u8 (nI n)=nI n:=by
 show nI n % 256=nI n
 simp only [nI]; omega
theorem Ajt {c:Bq} (h:Rh c=true):1≤c.1.size∧c.1.size≤20∧c.2.1.size≤100:=by
 obtain ⟨h1,h2⟩:=C6 h
 obtain ⟨h2,_⟩:=C6 h2
 have:=Iu h1
 have:=F0 h2
 omega
theorem h9 {c:Bq} (h:Rh c=true):F2 (Xh c)=true∧(Xh c).length≤200:=by
 obtain ⟨k1,k2,k3⟩:=Ajt h
 unfold Xh
 have a1:=Ayp c.1.size (by omega)
 have a2:=Ayp c.2.1.size (by omega)
 have b1:F2 [1,nI c.1.size]=true:=by
  rw [show [1,nI c.1.size]=[1]++[nI c.1.size] from rfl,I9,a1]; rfl
 have b0:F2 [0,nI c.1.size]=true:=by
  rw [show [0,nI c.1.size]=[0]++[nI c.1.size] from rfl,I9,a1]; rfl
 cases c.2.2.1
 ·simp only [cond_false,I9,b0,a2,Xr,Lw,Ds,List.length_cons,List.length_nil]
  exact ⟨rfl,by omega⟩
 ·simp only [cond_true,I9,b1,Xr,Lw,Ds,List.length_cons,List.length_nil]
  exact ⟨rfl,by omega⟩
theorem Uo {b:List Bq} (h:Br b=true):b.length≤20∧∀ i,i < b.length→Rh (b.getD i zC)=true:=by
 obtain ⟨h1,h2⟩:=C6 h
 refine ⟨by have:=(Iu h1).2; omega,fun i hi=>?_⟩
 exact List.all_eq_true.1 h2 i (List.mem_range'_1.2 ⟨by omega,by omega⟩)
def A0k (i:Nat) (r:List Int):Prop:=r.length≤200 * i∧F2 r=true
theorem A0k.step {i:Nat} {r:List Int} {c:Bq} (h:A0k i r) (hc:Rh c=true):A0k (i + 1) (r++Xh c):=by
 obtain ⟨q1,q2⟩:=h9 hc
 exact ⟨by rw [Lw]; have:=h.1; omega,by rw [I9,h.2,q1]; rfl⟩
theorem A9p {b:List Bq} (h:∀ i,i < b.length→Rh (b.getD i zC)=true):∀ k i r,i + k=b.length→A0k i r→A0k b.length (iter (fun i r=>r++Xh (b.getD i zC)) k i r)
 | 0,i,r,e,hr=>by
  obtain rfl:i=b.length:=by omega
  exact hr
 | k + 1,i,r,e,hr=>A9p h k (i + 1) _ (by omega) (hr.step (h i (by omega)))
theorem Aad {a b:Aa} (h:Ad a=Ad b):a=b:=by
 apply ByteArray.ext
 apply Array.ext'
 unfold Ad at h
 exact (List.map_inj_right (fun x y e=>UInt8.toNat_inj.1 (by omega))).1 h
theorem Ng (s:Aa) (a b:Nat):Ad (Ao s a b)=((Ad s).drop a).take (b - a):=by
 unfold Ad Ao
 simp [List.map_drop,List.map_take]
theorem Bdv {a b:Aa} (h:(a.toList==b.toList)=true):a=b:=by
 have h:=eq_of_beq h
 rw [ByteArray.toList_eq,ByteArray.toList_eq] at h
 apply ByteArray.ext
 exact Array.ext' h
theorem Bkp {s:Aa} (h:Ad s=[]):s=Ac:=Aad h
theorem Ao9 {s:Aa} (h:0 < s.size):Ad s=Am s 0::Ad (Ao s 1 (nI s.size)):=by
 have hc:=Ng s 1 s.size
 have e:Ao s 1 (nI s.size)=Ao s ((1:Nat):Int) ((s.size:Nat):Int):=rfl
 rw [e,hc]
 have hl:=Ds s
 cases hb:Ad s with
 | nil=>rw [hb] at hl; simp at hl; omega
 | cons x r=>
  have hx:Am s 0=x:=by
   unfold Am
   unfold Ad at hb
   cases hd:s.data.toList with
   | nil=>rw [hd] at hb; simp at hb
   | cons y q=>rw [hd] at hb; simp at hb; simp [hb.1]
  rw [hx,List.drop_one,List.tail_cons,List.take_of_length_le]
  rw [hb] at hl
  simp at hl
  omega
theorem Au2 {s:Aa} (h:(Ba s).2.2=true):Ad s=nI (Ba s).1.size::(Ad (Ba s).1++Ad (Ba s).2.1):=by
 unfold Ba at h ⊢
 split at h
 ·cases h
 ·rename_i hc
  rw [if_neg hc]
  obtain ⟨b0,b1⟩:=Ib s 0
  have h0:0 < s.size:=by omega
  rw [Ao9 h0]
  obtain ⟨n,hn⟩:∃ n:Nat,Am s 0=(n:Int):=⟨(Am s 0).toNat,by omega⟩
  have e1:(Ao s 1 (1 + Am s 0)).size=n:=by rw [G3 (by omega) (by omega) (by omega)]; omega
  simp only [e1]
  rw [hn]
  congr 1
  have q1:Ao s 1 (nI s.size)=Ao s ((1:Nat):Int) ((s.size:Nat):Int):=rfl
  have q2:Ao s 1 (1 + (n:Int))=Ao s ((1:Nat):Int) ((1 + n:Nat):Int):=by rw [show (1 + (n:Int))=((1 + n:Nat):Int) by omega]<;>rfl
  have q3:Ao s (1 + (n:Int)) (nI s.size)=Ao s ((1 + n:Nat):Int) ((s.size:Nat):Int):=by rw [show (1 + (n:Int))=((1 + n:Nat):Int) by omega]<;>rfl
  rw [q1,q2,q3,Ng,Ng,Ng]
  have hl:=Ds s
  rw [List.take_of_length_le (by rw [List.length_drop]; omega),show 1 + n - 1=n by omega,List.take_of_length_le (l:=List.drop (1 + n) (Ad s)) (by rw [List.length_drop]; omega),← List.drop_drop]
  exact (List.take_append_drop n _).symm
theorem X8 {s k t:Aa} (hk:k.size < 256) (h:Ad s=nI k.size::(Ad k++Ad t)):Ba s=(k,t,true):=by
 have hl:=Ds s
 have hlk:=Ds k
 have hlt:=Ds t
 rw [h,List.length_cons,Lw,hlk,hlt] at hl
 have h0:0 < s.size:=by omega
 have hh:=Ao9 h0
 rw [h] at hh
 have hb:Am s 0=nI k.size:=(List.cons.inj hh).1.symm
 have ht:=(List.cons.inj hh).2
 unfold Ba
 rw [hb,if_neg (by simp only [nI]; omega)]
 have q1:Ao s 1 (1 + nI k.size)=Ao s ((1:Nat):Int) ((1 + k.size:Nat):Int):=by rw [show (1 + nI k.size)=((1 + k.size:Nat):Int) by simp only [nI]; omega]<;>rfl
 have q2:Ao s (1 + nI k.size) (nI s.size)=Ao s ((1 + k.size:Nat):Int) ((s.size:Nat):Int):=by rw [show (1 + nI k.size)=((1 + k.size:Nat):Int) by simp only [nI]; omega]<;>rfl
 have hd:(Ad s).drop 1=Ad k++Ad t:=by rw [h]; rfl
 have e1:Ao s 1 (1 + nI k.size)=k:=by
  apply Aad
  rw [q1,Ng,hd,show 1 + k.size - 1=k.size by omega,List.take_append_of_le_length (by omega),List.take_of_length_le (by omega)]
 have e2:Ao s (1 + nI k.size) (nI s.size)=t:=by
  apply Aad
  rw [q2,Ng,← List.drop_drop,hd,List.drop_append_of_le_length (by omega),List.drop_of_length_le (by omega),List.nil_append,List.take_of_length_le (by omega)]
 rw [e1,e2]
theorem Bcf {s:Aa} (h0:0 < s.size) {c:Bq} {t:Aa} (h:Auz true s=some (c,t)):Ad s=Xh c++Ad t:=by
 unfold Auz at h
 rw [Ao9 h0]
 obtain ⟨b0,b1⟩:=Ib s 0
 by_cases g1:Am s 0 > 1
 ·rw [Ap g1] at h; cases h
 ·rw [Bd g1] at h
  have hp:=@Au2 (Ao s 1 (nI s.size))
  generalize Ba (Ao s 1 (nI s.size))=p at *
  obtain ⟨k,u,o⟩:=p
  cases o
  ·cases h
  ·rw [hp rfl]
   by_cases g2:Am s 0=1
   ·rw [g2] at h ⊢
    cases h
    simp [Xh]
   ·have g3:Am s 0=0:=by omega
    rw [g3] at h ⊢
    have hq:=@Au2 u
    have h:(bif !(Ba u).2.2 then none else some ((k,(Ba u).1,false,()),(Ba u).2.1))=some (c,t):=h
    generalize Ba u=q at *
    obtain ⟨v,w,o⟩:=q
    cases o
    ·cases h
    ·cases h
     have:=hq rfl
     simp only at this ⊢
     rw [this]
     simp [Xh]
theorem A3i {s:Aa} {c:Bq} {t:Aa} (hc:Rh c=true) (h:Ad s=Xh c++Ad t) (b:Bool):0 < s.size∧Auz b s=some (c,t):=by
 obtain ⟨k1,k2,k3⟩:=Ajt hc
 obtain ⟨k,v,g,u⟩:=c
 have hl:=Ds s
 have h0:0 < s.size:=by
  rw [h,Lw] at hl
  unfold Xh at hl
  cases g<;>simp at hl<;>omega
 refine ⟨h0,?_⟩
 have hh:=Ao9 h0
 rw [h] at hh
 unfold Auz
 cases g
 ·have e:Xh (k,v,false,u)++Ad t=0::(nI k.size::(Ad k++(nI v.size::(Ad v++Ad t)))):=by simp [Xh]
  rw [e] at hh
  have hb:Am s 0=0:=(List.cons.inj hh).1.symm
  have ht:=(List.cons.inj hh).2.symm
  have a2:=Ayp v.size (by have:v.size≤100:=k3; omega)
  have ev:Ad (strOfNums (nI v.size::(Ad v++Ad t)))=nI v.size::(Ad v++Ad t):=P6 _ (by
   rw [show nI v.size::(Ad v++Ad t)=[nI v.size]++(Ad v++Ad t) from rfl,I9,I9,a2,Xr,Xr]; rfl)
  have p1:=X8 (s:=Ao s 1 (nI s.size)) (k:=k) (t:=strOfNums (nI v.size::(Ad v++Ad t))) (by have:k.size≤20:=k2; omega) (by rw [ev]; exact ht)
  have p2:=X8 (s:=strOfNums (nI v.size::(Ad v++Ad t))) (k:=v) (t:=t) (by have:v.size≤100:=k3; omega) ev
  rw [p1,hb]
  show (bif b&&false then none else (bif !(Ba (strOfNums (nI v.size::(Ad v++Ad t)))).2.2 then none else some ((k,(Ba (strOfNums (nI v.size::(Ad v++Ad t)))).1,false,()),(Ba (strOfNums (nI v.size::(Ad v++Ad t)))).2.1)))=_
  rw [p2,Bool.and_false]
  rfl
 ·have hv:v=Ac:=by
   obtain ⟨_,h2⟩:=C6 hc
   obtain ⟨_,h2⟩:=C6 h2
   have h2:(!(true&&!(v.toList==[])))=true:=h2
   have h3:(v.toList==[])=true:=by cases hq:(v.toList==[])<;>rw [hq] at h2<;>first | rfl | cases h2
   have h3:=eq_of_beq h3
   rw [ByteArray.toList_eq] at h3
   apply ByteArray.ext
   exact Array.ext' h3
  subst hv
  have e:Xh (k,Ac,true,u)++Ad t=1::(nI k.size::(Ad k++Ad t)):=by simp [Xh]
  rw [e] at hh
  have hb:Am s 0=1:=(List.cons.inj hh).1.symm
  have ht:=(List.cons.inj hh).2.symm
  have p1:=X8 (s:=Ao s 1 (nI s.size)) (k:=k) (t:=t) (by have:k.size≤20:=k2; omega) ht
  rw [p1,hb]
  cases b<;>rfl
theorem Au3:∀ (f:Nat) (r:List Bq) (s:Aa) {b:List Bq} {t:Aa},P4 true f r s=some (b,t)→∃ cs,b=r++cs∧Ad s=Im cs++Ad t
 | 0,r,s,b,t,h=>by
  cases h
  exact ⟨[],by simp,by simp [Im]⟩
 | f + 1,r,s,b,t,h=>by
  unfold P4 at h
  by_cases q:(decide (s.size > 0)&&decide (r.length≤20))=true
  ·rw [q] at h
   have h0:=F0 (C6 q).1
   cases hs:Auz true s with
   | none=>rw [hs] at h; cases h
   | some ct=>
    obtain ⟨c,u⟩:=ct
    rw [hs] at h
    obtain ⟨cs,e1,e2⟩:=Au3 f (r++[c]) u h
    refine ⟨c::cs,by rw [e1,List.append_assoc]; rfl,?_⟩
    rw [Bcf h0 hs,e2]
    simp [Im]
  ·rw [Bool.eq_false_iff.2 q] at h
   cases h
   exact ⟨[],by simp,by simp [Im]⟩
theorem X9 (strict:Bool):∀ (cs:List Bq) (f:Nat) (r:List Bq) (s:Aa),cs.length < f→r.length + cs.length≤20→(∀ c∈cs,Rh c=true)→Ad s=Im cs→P4 strict f r s=some (r++cs,Ac)
 | [],f + 1,r,s,_,_,_,h=>by
  have hz:=Bkp (s:=s) h
  subst hz
  rw [List.append_nil]
  rfl
 | c::cs,f + 1,r,s,hf,hr,hok,h=>by
  have hb:Ad (strOfNums (Im cs))=Im cs:=P6 _ (List.all_eq_true.2 fun x hx=>by
   obtain ⟨l,hl,hx⟩:=List.mem_flatten.1 hx
   obtain ⟨d,hd,rfl⟩:=List.mem_map.1 hl
   exact List.all_eq_true.1 (h9 (hok d (List.mem_cons_of_mem _ hd))).1 x hx)
  obtain ⟨h0,hs⟩:=A3i (s:=s) (c:=c) (t:=strOfNums (Im cs)) (hok c (by simp)) (by rw [hb,h]; rfl) strict
  unfold P4
  rw [hs,Ap (show s.size > 0 from h0),Ap (show r.length≤20 by rw [List.length_cons] at hr; omega)]
  have ih:=X9 strict cs f (r++[c]) (strOfNums (Im cs)) (by rw [List.length_cons] at hf; omega) (by rw [Lw,Nz]; rw [List.length_cons] at hr; omega) (fun d hd=>hok d (List.mem_cons_of_mem _ hd)) hb
  rw [List.append_assoc] at ih
  exact ih
theorem Bcg (s:Aa):strOfNums (Ad s)=s:=Aad (P6 _ (Xr s))
theorem Bfb {b:List Bq} (h:∀ c∈b,Rh c=true):F2 (Im b)=true:=List.all_eq_true.2 fun x hx=>by
 obtain ⟨l,hl,hx⟩:=List.mem_flatten.1 hx
 obtain ⟨d,hd,rfl⟩:=List.mem_map.1 hl
 exact List.all_eq_true.1 (h9 (h d hd)).1 x hx
theorem Asj {b:List Bq} (h:Br b=true):1≤b.length∧b.length≤20∧∀ c∈b,Rh c=true:=by
 obtain ⟨h1,h2⟩:=Uo h
 refine ⟨by have:=(Iu (C6 h).1).1; omega,h1,A9k (z:=zC) (P:=fun c=>Rh c=true) h2⟩
theorem Bdw {s:Aa} {b:List Bq} (hv:Br b=true) (hs:Ad s=Im b):Nn s=(b,true)∧A0b s=(b,true):=by
 obtain ⟨h1,h2,h3⟩:=Asj hv
 have p1:=X9 true b 22 [] s (by omega) (by simpa using h2) h3 hs
 have p2:=X9 false b 22 [] s (by omega) (by simpa using h2) h3 hs
 have hf:Hu b=s:=by
  unfold Hu
  rw [hv,← hs,cond_true,Bcg]
 have hz:(s.size==0)=false:=by
  refine beq_eq_false_iff_ne.2 fun q=>?_
  cases b with
  | nil=>simp at h1
  | cons c r=>
   have:=Ds s
   rw [q,hs] at this
   unfold Im Xh at this
   cases hg:c.2.2.1<;>simp [hg] at this
 unfold Nn A0b
 rw [p1,p2]
 simp only [List.nil_append]
 rw [hv,hf,hz,beq_self_eq_true]
 exact ⟨rfl,rfl⟩
theorem Bdx {s:Aa} (h:∀ b,Br b=true→Ad s≠Im b):Nn s=([],false)∧A0b s=([],false):=by
 constructor
 ·unfold Nn
  cases hp:P4 true 22 [] s with
  | none=>rfl
  | some bt=>
   obtain ⟨b,t⟩:=bt
   simp only
   obtain ⟨cs,e1,e2⟩:=Au3 22 [] s hp
   rw [List.nil_append] at e1
   subst e1
   by_cases ht:t.size > 0
   ·rw [Ap ht]; rfl
   ·cases hv:Br b with
    | false=>rw [Bool.not_false,Bool.or_true]; rfl
    | true=>
     have h0:Ad t=[]:=List.length_eq_zero_iff.1 (by rw [Ds]; omega)
     rw [h0,List.append_nil] at e2
     exact absurd e2 (h b hv)
 ·unfold A0b
  cases hp:P4 false 22 [] s with
  | none=>rfl
  | some bt=>
   obtain ⟨b,t⟩:=bt
   simp only
   by_cases hz:s.size=0
   ·rw [hz]; rfl
   ·rw [beq_eq_false_iff_ne.2 hz,Bool.false_or]
    cases he:((Hu b).toList==s.toList) with
    | false=>rfl
    | true=>
     have e:=Bdv he
     cases hv:Br b with
     | false=>
      unfold Hu at e
      rw [hv] at e
      subst e
      exact absurd rfl hz
     | true=>
      unfold Hu at e
      rw [hv] at e
      have e:strOfNums (Im b)=s:=e
      have:=congrArg Ad e
      rw [P6 _ (Bfb (Asj hv).2.2)] at this
      exact absurd this.symm (h b hv)
theorem Bfc (s:Aa):A0b s=Nn s:=by
 by_cases h:∃ b,Br b=true∧Ad s=Im b
 ·obtain ⟨b,h1,h2⟩:=h
  rw [(Bdw h1 h2).1,(Bdw h1 h2).2]
 ·have h':∀ b,Br b=true→Ad s≠Im b:=fun b h1 h2=>h ⟨b,h1,h2⟩
  rw [(Bdx h').1,(Bdx h').2]
def Av8 (v b:Int):Int:=v * 256 + b
theorem Ads (s:Aa) (i:Nat):Am s i=(Ad s).getD i 0:=by
 unfold Am Ad
 simp only [Eo,List.getD_eq_getElem?_getD,List.getElem?_map]
 cases s.data.toList[i]? <;> rfl
theorem A9q (s:Aa):∀ k i v,i + k=s.size→A9c s k i v=((Ad s).drop i).foldl Av8 v
 | 0,i,v,h=>by rw [List.drop_of_length_le (by rw [Ds]; omega)]; rfl
 | k + 1,i,v,h=>by
  rw [L1 (Ad s) i 0 (by rw [Ds]; omega),List.foldl_cons,← Ads]
  exact A9q s k (i + 1) _ (by omega)
theorem Bdy (s:Aa):Agv s=(Ad s).foldl Av8 0:=by
 unfold Agv
 rw [A9q s s.size 0 0 (by omega),List.drop_zero]
theorem A9r (v:Int):∀ (n:Nat) (l:List Int),l.length=n→F2 l=true→Q6 (l.foldl Av8 v) n=l
 | 0,l,h,_=>by rw [List.length_eq_zero_iff.1 h]; rfl
 | n + 1,l,h,ha=>by
  obtain ⟨q,b,rfl⟩:∃ q b,l=q++[b]:=⟨l.dropLast,l.getLast (by intro e; subst e; simp at h),(List.dropLast_concat_getLast _).symm⟩
  rw [I9] at ha
  obtain ⟨h1,h2⟩:=C6 ha
  have hb:0≤b∧b < 256:=by
   have:=List.all_eq_true.1 h2 b (by simp)
   exact ⟨F0 (C6 this).1,F0 (C6 this).2⟩
  rw [List.foldl_append]
  simp only [List.foldl_cons,List.foldl_nil,Q6]
  have e1:Av8 (q.foldl Av8 v) b / 256=q.foldl Av8 v:=by unfold Av8; omega
  have e2:Av8 (q.foldl Av8 v) b % 256=b:=by unfold Av8; omega
  rw [e1,e2,A9r v n q (by simpa using h) h1]
theorem A9s:∀ (n:Nat) (v:Int),0≤v→v < 256 ^ n→(Q6 v n).foldl Av8 0=v
 | 0,v,h0,h1=>by
  have:v < 1:=h1
  show (0:Int)=v
  omega
 | n + 1,v,h0,h1=>by
  have hp:(256:Int) ^ (n + 1)=256 ^ n * 256:=Int.pow_succ _ _
  simp only [Q6,List.foldl_append,List.foldl_cons,List.foldl_nil]
  rw [A9s n (v / 256) (by omega) (by omega)]
  unfold Av8
  omega
theorem A9t:∀ (n:Nat) (v:Int),F2 (Q6 v n)=true
 | 0,_=>rfl
 | n + 1,v=>by
  simp only [Q6,I9,A9t n]
  show (true&&((decide (0≤v % 256)&&decide (v % 256 < 256))&&true))=true
  rw [Ap (by omega),Ap (by omega)]
  rfl
theorem Oo (v:Int) (n:Nat):Ad (Dy v n)=Q6 v n:=P6 _ (A9t n v)
theorem A9u {v:Int} {n:Nat} (h0:0≤v) (h1:v < 256 ^ n):Agv (Dy v n)=v:=by rw [Bdy,Oo,A9s n v h0 h1]
theorem Bhq (s:Aa):Dy (Agv s) s.size=s:=by
 apply Aad
 rw [Oo,Bdy]
 exact A9r 0 s.size _ (Ds s) (Xr s)
theorem Bfd (n:Nat):F2 (List.replicate n 0)=true:=List.all_eq_true.2 fun x hx=>by
 rw [List.eq_of_mem_replicate hx]; rfl
theorem Amf (p:Pg) (w:Int):Ad (Ia p w)=Q6 p.1 1++(Q6 p.2.1 2++(Q6 p.2.2.1 4++(Q6 p.2.2.2.1.size 1++(Ad p.2.2.2.1++List.replicate (56 - w - p.2.2.2.1.size).toNat 0)))):=by
 unfold Ia
 rw [Qw,Qw,Qw,Qw,Qw,Oo,Oo,Oo,Oo,P6 _ (Bfd _)]
 simp only [List.append_assoc]
theorem A5k {p:Pg} {w:Int} (h:Mq p w=true):(Ia p w).size=(64 - w).toNat:=by
 obtain ⟨hw,k1,k2,kp⟩:=X7 h
 rw [← Ds,Amf]
 simp only [Lw,Agz,Ds,List.length_replicate]
 omega
theorem Bch {p:Pg} {w:Int} (h:Mq p w=true):(E7 p w).size=64∧Ao (E7 p w) w (nI (E7 p w).size)=Ia p w:=by
 obtain ⟨hw,k1,k2,kp⟩:=X7 h
 have e:E7 p w=Ao2 (Ia p w) w++Ia p w:=by unfold E7; rw [h]; rfl
 have hs:(E7 p w).size=64:=by rw [e,ByteArray.size_append,Aa7 hw,A5k h]; omega
 refine ⟨hs,?_⟩
 obtain ⟨n,rfl⟩:∃ n:Nat,w=(n:Int):=⟨w.toNat,by omega⟩
 apply Aad
 have q:Ao (E7 p n) n (nI (E7 p n).size)=Ao (E7 p n) (n:Nat) ((64:Nat):Int):=by rw [hs]<;>rfl
 rw [q,Ng,e,Qw,List.drop_append_of_le_length (by rw [Ds,Aa7 hw]; omega),List.drop_of_length_le (by rw [Ds,Aa7 hw]; omega),List.nil_append,List.take_of_length_le (by rw [Ds,A5k h]; omega)]
theorem Bhr {p:Pg} {w:Int} (h:Mq p w=true):Bcb (Ia p w)=p:=by
 obtain ⟨hw,k1,k2,kp⟩:=X7 h
 obtain ⟨r1,r2,r3⟩:=Ag0 h
 have hb:=Amf p w
 have d1:∀ v:Int,Q6 v 1=[v % 256]:=fun v=>rfl
 have d2:∀ v:Int,Q6 v 2=[v / 256 % 256,v % 256]:=fun v=>rfl
 have d4:∀ v:Int,Q6 v 4=[v / 256 / 256 / 256 % 256,v / 256 / 256 % 256,v / 256 % 256,v % 256]:=fun v=>rfl
 have b7:Am (Ia p w) 7=p.2.2.2.1.size:=by
  have:=Ads (Ia p w) 7
  rw [hb,d1,d2,d4,d1] at this
  refine this.trans ?_
  show (p.2.2.2.1.size:Int) % 256=_
  omega
 have b0:Am (Ia p w) 0=p.1:=by
  have:=Ads (Ia p w) 0
  rw [hb,d1] at this
  refine this.trans ?_
  show p.1 % 256=_
  omega
 have c1:Ao (Ia p w) 1 3=Dy p.2.1 2:=by
  apply Aad
  have:=Ng (Ia p w) 1 3
  rw [hb,d1,d2,d4,d1] at this
  exact this.trans (by rw [Oo,d2]; rfl)
 have c3:Ao (Ia p w) 3 7=Dy p.2.2.1 4:=by
  apply Aad
  have:=Ng (Ia p w) 3 7
  rw [hb,d1,d2,d4,d1] at this
  exact this.trans (by rw [Oo,d4]; rfl)
 have c8:Ao (Ia p w) 8 (8 + (p.2.2.2.1.size:Int))=p.2.2.2.1:=by
  apply Aad
  have:=Ng (Ia p w) 8 (8 + p.2.2.2.1.size)
  rw [hb,d1,d2,d4,d1] at this
  refine this.trans ?_
  show List.take (8 + p.2.2.2.1.size - 8) (Ad p.2.2.2.1++_)=_
  rw [show 8 + p.2.2.2.1.size - 8=p.2.2.2.1.size by omega,List.take_append_of_le_length (by rw [Ds]; omega),List.take_of_length_le (by rw [Ds]; omega)]
 have p2:(256:Int) ^ 2=65536:=by decide
 have p4:(256:Int) ^ 4=4294967296:=by decide
 unfold Bcb
 rw [b7,b0,c1,c3,c8,A9u (by omega) (by omega),A9u (by omega) (by omega)]
theorem Bfe {p:Pg} {w:Int} (h:Mq p w=true):Dq (E7 p w) w=(p,true):=by
 obtain ⟨hw,k1,k2,kp⟩:=X7 h
 obtain ⟨hs,ht⟩:=Bch h
 have hr:=Bhr h
 have b7:Am (Ia p w) 7=p.2.2.2.1.size:=by
  have:=Ads (Ia p w) 7
  rw [Amf] at this
  refine this.trans ?_
  show (p.2.2.2.1.size:Int) % 256=_
  omega
 unfold Dq Bcc
 rw [ht,hr,hw,hs,b7,beq_self_eq_true,Bd (by omega)]
 rfl
theorem Ya {s:Aa} {w:Int} {p:Pg} (h:Dq s w=(p,true)):s.size=64∧Fg w 1 8=true∧E7 p w=s∧Mq p w=true:=by
 unfold Dq at h
 cases h1:(nI s.size != 64) with
 | true=>rw [h1] at h; cases h
 | false=>
  cases h2:Fg w 1 8 with
  | false=>rw [h1,h2] at h; cases h
  | true=>
   cases h3:decide (Am (Ao s w (nI s.size)) 7 > 56 - w) with
   | true=>rw [h1,h2,h3] at h; cases h
   | false=>
    cases h4:((E7 (Bcc s w) w).toList==s.toList) with
    | false=>rw [h1,h2,h3,h4] at h; cases h
    | true=>
     rw [h1,h2,h3,h4] at h
     have e:Bcc s w=p:=congrArg Prod.fst h
     rw [e] at h4
     have e2:=Bdv h4
     have hs:s.size=64:=by
      by_cases q:nI s.size=64
      ·simp only [nI] at q; omega
      ·rw [(bne_iff_ne).2 q] at h1; cases h1
     refine ⟨hs,rfl,e2,?_⟩
     cases hp:Mq p w with
     | true=>rfl
     | false=>
      unfold E7 at e2
      rw [hp] at e2
      subst e2
      cases hs
theorem Bff {s:Aa} {w:Int} {p:Pg} (h:Dq s w=(p,true)) (h5:p.2.2.2.1.size=5):
  ((Aa4 (Nk p) w).toList==s.toList)=((p.1==4)&&P3 (Nk p)):=by
 obtain ⟨hs,hw,hf,hp⟩:=Ya h
 cases hr:P3 (Nk p) with
 | false=>
  rw [Bool.and_false]
  cases q:((Aa4 (Nk p) w).toList==s.toList) with
  | false=>rfl
  | true=>
   have e:=Bdv q
   unfold Aa4 at e
   rw [hr] at e
   subst e
   cases hs
 | true=>
  rw [Bool.and_true]
  have hpart:Dy (Nk p).2.1 1++Dy (Nk p).2.2.1 4=p.2.2.2.1:=by
   apply Aad
   have e4:(Ao p.2.2.2.1 1 (nI p.2.2.2.1.size)).size=4:=by rw [G3 (by omega) (by simp only [nI]; omega) (by simp [nI])]; simp only [nI,h5]; decide
   have e5:Dy (Agv (Ao p.2.2.2.1 1 (nI p.2.2.2.1.size))) 4=Ao p.2.2.2.1 1 (nI p.2.2.2.1.size):=by
    have:=Bhq (Ao p.2.2.2.1 1 (nI p.2.2.2.1.size))
    rw [e4] at this
    exact this
   show Ad (Dy (Am p.2.2.2.1 0) 1++Dy (Agv (Ao p.2.2.2.1 1 (nI p.2.2.2.1.size))) 4)=_
   obtain ⟨b0,b1⟩:=Ib p.2.2.2.1 0
   rw [e5,Qw,Oo,Ao9 (s:=p.2.2.2.1) (by omega)]
   show [Am p.2.2.2.1 0 % 256]++_=_
   rw [show Am p.2.2.2.1 0 % 256=Am p.2.2.2.1 0 by omega]
   rfl
  have hR:Aa4 (Nk p) w=E7 (4,p.2.1,p.2.2.1,p.2.2.2.1,()) w:=by
   unfold Aa4
   rw [hr,hpart]
   rfl
  rw [hR]
  by_cases hk:p.1=4
  ·have e:((4,p.2.1,p.2.2.1,p.2.2.2.1,()):Pg)=p:=by rw [← hk]
   rw [e,hf,hk,beq_self_eq_true]
   rfl
  ·rw [beq_eq_false_iff_ne.2 hk]
   cases q:((E7 (4,p.2.1,p.2.2.1,p.2.2.2.1,()) w).toList==s.toList) with
   | false=>rfl
   | true=>
    have e:=Bdv q
    cases ho:Mq (4,p.2.1,p.2.2.1,p.2.2.2.1,()) w with
    | false=>
     unfold E7 at e
     rw [ho] at e
     subst e
     cases hs
    | true=>
     have r:=Bfe ho
     rw [e,h] at r
     exact absurd (congrArg (fun x:Pg×Bool=>x.1.1) r) hk
theorem Bfg {a n:Int} (hn:0 < n):(a + n - 1) / n=1 + (a - n + n - 1) / n:=by
 have:a + n - 1=(a - n + n - 1) + n * 1:=by omega
 rw [this,Int.add_mul_ediv_left _ _ (by omega)]
 omega
theorem A5l (n:Nat) (hn:1≤n):∀ (f:Nat) (s:Aa),s.size≤f→((Gz n f s).length:Int)=if ((s.size:Int) + n - 1) / n > 1 then ((s.size:Int) + n - 1) / n else 1
 | 0,s,h=>by
  have h0:s.size=0:=by omega
  simp only [Gz,h0]
  have:(((0:Nat):Int) + n - 1) / n=0:=Int.ediv_eq_zero_of_lt (by omega) (by omega)
  exact (if_neg (by rw [this]; decide)).symm
 | f + 1,s,h=>by
  by_cases q:s.size > n
  ·have hc:(Ao s n (nI s.size)).size=s.size - n:=by rw [G3 (by omega) (by simp only [nI]; omega) (by simp [nI])]; simp only [nI]; omega
   simp only [Gz,if_pos q,List.length_cons]
   have ih:=A5l n hn f (Ao s n (nI s.size)) (by omega)
   rw [hc] at ih
   have e:=Bfg (a:=s.size) (n:=n) (by omega)
   have e2:((s.size - n:Nat):Int)=(s.size:Int) - n:=by omega
   rw [e2] at ih
   have hp:1≤((s.size:Int) - n + n - 1) / n:=by
    rw [Int.le_ediv_iff_mul_le (by omega)]
    omega
   rw [e]
   generalize ((s.size:Int) - n + n - 1) / n=y at *
   rw [if_pos (by omega)]
   split at ih<;>omega
  ·simp only [Gz,if_neg q]
   have:((s.size:Int) + n - 1) / n < 2:=by
    rw [Int.ediv_lt_iff_lt_mul (by omega)]
    omega
   exact (if_neg (by omega)).symm
theorem Amg {s:Aa} {w:Int} (hw:Fg w 1 8=true):((Dl s w).length:Int)=if ((s.size:Int) + (56 - w) - 1) / (56 - w) > 1 then ((s.size:Int) + (56 - w) - 1) / (56 - w) else 1:=by
 obtain ⟨h1,h2⟩:=Iu hw
 obtain ⟨n,hn⟩:∃ n:Nat,56 - w=(n:Int):=⟨(56 - w).toNat,by omega⟩
 unfold Dl
 rw [hn,Eo]
 exact A5l n (by omega) s.size s (Nat.le_refl _)
theorem Ag1 (life w:Int):∀ (L:List Aa) (k:Int),A5f life w k L=(List.range' 0 L.length).map (fun i=>E7 ((if i + 1=L.length then 2 else 1),life,k + (i:Int),L.getD i z0,()) w)
 | [],k=>rfl
 | [p],k=>by
  show [E7 (2,life,k,p,()) w]=[E7 ((if 0 + 1=1 then 2 else 1),life,k + ((0:Nat):Int),p,()) w]
  rw [if_pos rfl,show k + ((0:Nat):Int)=k by omega]
 | p::q::r,k=>by
  have ih:=Ag1 life w (q::r) (k + 1)
  show E7 (1,life,k,p,()) w::A5f life w (k + 1) (q::r)=(List.range' 0 ((q::r).length + 1)).map (fun i=>E7 ((if i + 1=(q::r).length + 1 then 2 else 1),life,k + (i:Int),(p::q::r).getD i z0,()) w)
  rw [ih,List.range'_succ,List.map_cons]
  congr 1
  ·rw [if_neg (by rw [List.length_cons]; omega),show k + ((0:Nat):Int)=k by omega]
   rfl
  ·rw [show List.range' (0 + 1) (q::r).length=List.map (fun x=>1 + x) (List.range' 0 (q::r).length) by rw [List.map_add_range'],List.map_map]
   refine List.map_congr_left fun i _=>?_
   show _=E7 ((if 1 + i + 1=(q::r).length + 1 then 2 else 1),life,k + ((1 + i:Nat):Int),(p::q::r).getD (1 + i) z0,()) w
   rw [show k + ((1 + i:Nat):Int)=k + 1 + (i:Int) by omega,show 1 + i=i + 1 by omega]
   by_cases e:i + 1=(q::r).length
   ·rw [if_pos e,if_pos (by omega)]; rfl
   ·rw [if_neg e,if_neg (by omega)]; rfl
theorem A5m {β:Type} (g:Nat→β):∀ k i (r:List β),iter (fun i r=>r++[g i]) k i r=r++(List.range' i k).map g
 | 0,i,r=>by simp [iter]
 | k + 1,i,r=>by
  simp only [iter]
  rw [A5m g k (i + 1),List.range'_succ,List.map_cons,List.append_assoc]
  rfl
theorem P5.sync {d:Dk} (h:P5 d):P5 (A9b d):=by
 have hl:=Xi d.1 d.2.1
 have hs:A9h d.1.length (O2 d.1 d.2.1):=Asi (A9h d.1.length) _ d.2.1 0 d.1 (fun i s w hw hI=>hI.set (A9k (z:=zW) (P:=fun w:Wr=>w.2.1.size=64) (fun i hi=>(h.pen i hi).2.2) w hw)) ⟨rfl,h.sec⟩
 exact ⟨by show 8≤(O2 d.1 d.2.1).length; rw [hl]; exact h.n8,by show (O2 d.1 d.2.1).length≤200; rw [hl]; exact h.n200,by show (0:Nat)≤300; omega,fun i hi=>hs.2 i (by rw [← hl]; exact hi),fun i hi=>absurd hi (by show ¬ i < 0; omega)⟩
theorem P5.op {d:Dk} (h:P5 d) (o:Ny):P5 (opS d o):=by
 unfold opS
 cases o.1 with
 | true=>exact h.sync
 | false=>
  cases hc:Av6 d.1.length (o.2.1,o.2.2.1,())&&decide (d.2.1.length < 300) with
  | false=>exact h
  | true=>
   obtain ⟨h1,h2⟩:=C6 hc
   obtain ⟨q1,q2⟩:=C6 h1
   obtain ⟨q2,q3⟩:=C6 q2
   have h2:=F0 h2
   refine ⟨h.n8,h.n200,by show (d.2.1++[(o.2.1,o.2.2.1,())]).length≤300; rw [Lw,Nz]; omega,h.sec,fun i hi=>?_⟩
   have hi:i < d.2.1.length + 1:=by
    have hi:i < (d.2.1++[(o.2.1,o.2.2.1,())]).length:=hi
    rw [Lw,Nz] at hi
    exact hi
   show 0≤((d.2.1++[(o.2.1,o.2.2.1,())]).getD i zW).1∧((d.2.1++[(o.2.1,o.2.2.1,())]).getD i zW).1 < (d.1.length:Int)∧((d.2.1++[(o.2.1,o.2.2.1,())]).getD i zW).2.1.size=64
   by_cases e:i < d.2.1.length
   ·have:(d.2.1++[(o.2.1,o.2.2.1,())]).getD i zW=d.2.1.getD i zW:=by
     rw [List.getD_eq_getElem?_getD,List.getElem?_append_left e,← List.getD_eq_getElem?_getD]
    rw [this]
    exact h.pen i e
   ·obtain rfl:i=d.2.1.length:=by omega
    have:(d.2.1++[(o.2.1,o.2.2.1,())]).getD d.2.1.length zW=(o.2.1,o.2.2.1,()):=by
     rw [List.getD_eq_getElem?_getD,List.getElem?_append_right (Nat.le_refl _),Nat.sub_self]
     rfl
    rw [this]
    exact ⟨F0 q1,F0 q2,F0 q3⟩
theorem P5.ops:∀ (l:List Ny) {d:Dk},P5 d→P5 (l.foldl opS d)
 | [],_,h=>h
 | o::r,_,h=>P5.ops r (h.op o)
theorem Ag2 (n:Nat):∀ (f:Nat) (s:Aa),(Gz n f s).length≤f + 1
 | 0,s=>by simp [Gz]
 | f + 1,s=>by
  unfold Gz
  split
  ·rw [List.length_cons]
   have:=Ag2 n f (Ao s n (nI s.size))
   omega
  ·simp
end
end Go.Proofs.YtjokieaajjmoeaaGreat.V
namespace Go.Proofs
open Go.Shelf
def Tryz.lays169_ren:Go.Shelf.Ren:=⟨fun | 169=>159 | n=>n,fun | 70=>185 | 9=>9 | 0=>0 | 72=>187 | 37=>184 | 127=>218 | 3=>3 | 5=>5 | n=>n,fun | n=>n⟩
theorem Tryz.lays169:Go.Proofs.Lays.n169 Tryz.prog Tryz.lays169_ren:={
 mixed:=by kernel_rfl
 f169:=Tryz.func159.trans (congrArg some (by kernel_rfl))
 t0:=Tryz.underlying0
 a0:=Tryz.isAgg0
 z0:=Tryz.sizeOf0
 v0:=Tryz.zeroValue0
 t3:=Tryz.underlying3
 a3:=Tryz.isAgg3
 z3:=Tryz.sizeOf3
 v3:=Tryz.zeroValue3
 t9:=Tryz.underlying9
 a9:=Tryz.isAgg9
 z9:=Tryz.sizeOf9
 v9:=Tryz.zeroValue9
 t37:=Tryz.underlying184
 a37:=Tryz.isAgg184
 z37:=Tryz.sizeOf184
 v37:=Tryz.zeroValue184
 t70:=Tryz.underlying185
 a70:=Tryz.isAgg185
 z70:=Tryz.sizeOf185
 v70:=Tryz.zeroValue185
 t72:=Tryz.underlying187
 a72:=Tryz.isAgg187
 z72:=Tryz.sizeOf187
 v72:=Tryz.zeroValue187
 t127:=Tryz.underlying218
 a127:=Tryz.isAgg218
 z127:=Tryz.sizeOf218
 v127:=Tryz.zeroValue218 }
theorem Tryz.Builder_Extra_169:Builder.Extra Tryz.prog Tryz.lays169_ren:={
 sizeBuilder:=by kernel_rfl
 liesBuilder:=by kernel_rfl
 t5:=Tryz.underlying5
 a5:=Tryz.isAgg5
 z5:=Tryz.sizeOf5
 v5:=Tryz.zeroValue5
 infoByte:=by kernel_rfl
 cellsByte:=by kernel_rfl
 sizeByte:=by kernel_rfl
 neB5:=by decide }
def Tryz.lays105_ren:Go.Shelf.Ren:=⟨fun | 105=>149 | 212=>173 | 99=>174 | 165=>175 | 166=>158 | 170=>176 | 169=>159 | 263=>197 | 264=>198 | 206=>199 | 240=>177 | 241=>200 | 276=>201 | 277=>207 | n=>n,fun | 9=>9 | 3=>3 | 4=>4 | 20=>20 | 0=>0 | 46=>201 | 109=>214 | 5=>5 | 72=>187 | 76=>190 | 51=>223 | 146=>233 | 53=>199 | 148=>235 | 70=>185 | 37=>184 | 75=>189 | 127=>218 | 164=>202 | 80=>192 | n=>n,fun | n=>n⟩
theorem Tryz.lays105:Go.Proofs.Lays.n105 Tryz.prog Tryz.lays105_ren:={
 mixed:=by kernel_rfl
 f99:=Tryz.func174.trans (congrArg some (by kernel_rfl))
 f105:=Tryz.func149.trans (congrArg some (by kernel_rfl))
 f165:=Tryz.func175.trans (congrArg some (by kernel_rfl))
 f166:=Tryz.func158.trans (congrArg some (by kernel_rfl))
 f169:=Tryz.func159.trans (congrArg some (by kernel_rfl))
 f170:=Tryz.func176.trans (congrArg some (by kernel_rfl))
 f206:=Tryz.func199.trans (congrArg some (by kernel_rfl))
 f212:=Tryz.func173.trans (congrArg some (by kernel_rfl))
 f240:=Tryz.func177.trans (congrArg some (by kernel_rfl))
 f241:=Tryz.func200.trans (congrArg some (by kernel_rfl))
 f263:=Tryz.func197.trans (congrArg some (by kernel_rfl))
 f264:=Tryz.func198.trans (congrArg some (by kernel_rfl))
 f276:=Tryz.func201.trans (congrArg some (by kernel_rfl))
 f277:=Tryz.func207.trans (congrArg some (by kernel_rfl))
 t0:=Tryz.underlying0
 a0:=Tryz.isAgg0
 z0:=Tryz.sizeOf0
 v0:=Tryz.zeroValue0
 t3:=Tryz.underlying3
 a3:=Tryz.isAgg3
 z3:=Tryz.sizeOf3
 v3:=Tryz.zeroValue3
 t4:=Tryz.underlying4
 a4:=Tryz.isAgg4
 z4:=Tryz.sizeOf4
 v4:=Tryz.zeroValue4
 t5:=Tryz.underlying5
 a5:=Tryz.isAgg5
 z5:=Tryz.sizeOf5
 v5:=Tryz.zeroValue5
 t9:=Tryz.underlying9
 a9:=Tryz.isAgg9
 z9:=Tryz.sizeOf9
 v9:=Tryz.zeroValue9
 t20:=Tryz.underlying20
 a20:=Tryz.isAgg20
 z20:=Tryz.sizeOf20
 v20:=Tryz.zeroValue20
 t37:=Tryz.underlying184
 a37:=Tryz.isAgg184
 z37:=Tryz.sizeOf184
 v37:=Tryz.zeroValue184
 t46:=Tryz.underlying201
 a46:=Tryz.isAgg201
 z46:=Tryz.sizeOf201
 v46:=Tryz.zeroValue201
 t51:=Tryz.underlying223
 a51:=Tryz.isAgg223
 z51:=Tryz.sizeOf223
 v51:=Tryz.zeroValue223
 t53:=Tryz.underlying199
 a53:=Tryz.isAgg199
 z53:=Tryz.sizeOf199
 v53:=Tryz.zeroValue199
 t70:=Tryz.underlying185
 a70:=Tryz.isAgg185
 z70:=Tryz.sizeOf185
 v70:=Tryz.zeroValue185
 t72:=Tryz.underlying187
 a72:=Tryz.isAgg187
 z72:=Tryz.sizeOf187
 v72:=Tryz.zeroValue187
 t75:=Tryz.underlying189
 a75:=Tryz.isAgg189
 z75:=Tryz.sizeOf189
 v75:=Tryz.zeroValue189
 t76:=Tryz.underlying190
 a76:=Tryz.isAgg190
 z76:=Tryz.sizeOf190
 v76:=Tryz.zeroValue190
 t109:=Tryz.underlying214
 a109:=Tryz.isAgg214
 z109:=Tryz.sizeOf214
 v109:=Tryz.zeroValue214
 t127:=Tryz.underlying218
 a127:=Tryz.isAgg218
 z127:=Tryz.sizeOf218
 v127:=Tryz.zeroValue218
 t146:=Tryz.underlying233
 a146:=Tryz.isAgg233
 z146:=Tryz.sizeOf233
 v146:=Tryz.zeroValue233
 t148:=Tryz.underlying235
 a148:=Tryz.isAgg235
 z148:=Tryz.sizeOf235
 v148:=Tryz.zeroValue235
 t164:=Tryz.underlying202
 a164:=Tryz.isAgg202
 z164:=Tryz.sizeOf202
 v164:=Tryz.zeroValue202 }
theorem Tryz.Builder_Extra_105:Builder.Extra Tryz.prog Tryz.lays105_ren:={
 sizeBuilder:=by kernel_rfl
 liesBuilder:=by kernel_rfl
 t5:=Tryz.underlying5
 a5:=Tryz.isAgg5
 z5:=Tryz.sizeOf5
 v5:=Tryz.zeroValue5
 infoByte:=by kernel_rfl
 cellsByte:=by kernel_rfl
 sizeByte:=by kernel_rfl
 neB5:=by decide }
namespace YtjokieaajjmoeaaGreat.R
open Go Go.RowKit
theorem Bjb:Bj8 Tryz.prog (Tryz.lays105_ren.t 72) (Tryz.lays105_ren.f 240):=Blr { Tryz.lays105 with } Tryz.Builder_Extra_105.toX72
theorem Bjc:Bj9 Tryz.prog (Tryz.lays169_ren.t 72) (Tryz.lays169_ren.t 5) (Tryz.lays169_ren.f 169):=Bls Tryz.lays169 Tryz.Builder_Extra_169
theorem Bhs:Af9 Tryz.prog (Tryz.lays105_ren.f 105) ⟨[.rd .str,.rd (.int .i64)],[none,none],[.rd .str],[none]⟩ (fun x=>(Amc x.1 x.2.1).bind fun r=>some ((r,()),())):=
 Be4 fun a c r h w=>by
  unfold Amc at h
  split at h
  ·rename_i hc
   cases h
   have:=Any.strings_Repeat Tryz.lays105 Tryz.Builder_Extra_105 a c.toNat w (by omega) hc.2.2
   rw [Int.toNat_of_nonneg hc.1] at this
   exact this
  ·cases h
end YtjokieaajjmoeaaGreat.R
end Go.Proofs
namespace Go.Proofs.YtjokieaajjmoeaaGreat.V
open Go Go.Proofs.YtjokieaajjmoeaaGreat.R
theorem G4 {α σ E:Type} {xs:List α} (z:α) (Inv:Nat→σ→Prop) (step:Nat→α→σ→σ) {g:Nat→Int→σ→Option E} {ok:σ→E}
  (hs:∀ m (i:Nat) s,i < xs.length→Inv i s→g (m + 1) i s=g m ((i + 1:Nat):Int) (step i (xs.getD i z) s))
  (hi:∀ i s,i < xs.length→Inv i s→Inv (i + 1) (step i (xs.getD i z) s))
  (he:∀ m s,Inv xs.length s→g (m + 1) (xs.length:Int) s=some (ok s)):
  ∀ (m i:Nat) s,i≤xs.length→xs.length - i < m→Inv i s→g m i s=some (ok (Gu step i (xs.drop i) s))
 | 0,i,s,_,hm,_=>by omega
 | m + 1,i,s,hl,hm,hI=>by
  by_cases h:i < xs.length
  ·rw [hs m i s h hI,G4 z Inv step hs hi he m (i + 1) _ (by omega) (by omega) (hi i s h hI),L1 xs i z h]
   rfl
  ·have:i=xs.length:=by omega
   subst this
   rw [he _ _ hI,List.drop_length]
   rfl
theorem A60 (n:Nat) (h:n < 1099511627776):IntKind.wrap IntKind.i64 (nI (n + 1) - 1)=(n:Int):=by
 simp only [nI]
 rw [Aj (by omega) (by omega)]
 omega
theorem Bht (i:Nat):(Int.tmod (i:Int) 20==0)=(i % 20==0):=by
 have:Int.tmod (i:Int) 20=((i % 20:Nat):Int):=by rw [Int.tmod_eq_emod_of_nonneg (by omega)]; omega
 rw [this]
 by_cases h:i % 20=0
 ·rw [h]; rfl
 ·rw [beq_eq_false_iff_ne.2 h]
  exact beq_eq_false_iff_ne.2 (by omega)
theorem A9v {α:Type} (c:Bool) (xs:List α) (y:α):(K4 c xs y).length=xs.length + c.toNat:=by cases c<;>simp [K4]
def A5n (i:Nat) (s:List (List Bq)×Bool×List Bq):Prop:=i≤100∧s.1.length≤i∧(0 < i→s.2.1=true)∧s.2.2.length≤i
theorem A5n.step {i:Nat} {s:List (List Bq)×Bool×List Bq} (h:A5n i s) (h1:i < 100) (p:Ar):A5n (i + 1) (Ux i p s):=by
 obtain ⟨_,h2,h3,h4⟩:=h
 unfold Ux
 cases hc:(i % 20==0)
 ·have:0 < i:=Nat.pos_of_ne_zero fun q=>by subst q; cases hc
  refine ⟨by omega,by simp only [cond_false]; omega,fun _=>h3 this,?_⟩
  simp only [cond_false,Lw,Nz]
  omega
 ·refine ⟨by omega,?_,fun _=>rfl,by simp⟩
  simp only [cond_true]
  rw [A9v]
  by_cases q:0 < i
  ·rw [h3 q]; simp; omega
  ·cases s.2.1<;>simp<;>omega
theorem Gc {s:Dh} (h:Av s=true):s.1.length≤100:=F0 (C6 h).1
theorem A9w (s:Aa) (w:Int):(bif Fg w 1 8 then ((Dl s w).length:Int) else 0)=Gy s.size w:=by
 unfold Gy
 cases hw:Fg w 1 8 with
 | false=>rfl
 | true=>exact Amg hw
theorem Asl (n:Nat) (w:Int):0≤Gy n w∧Gy n w≤(n:Int) + 1:=by
 unfold Gy
 cases hw:Fg w 1 8 with
 | false=>exact ⟨Int.le_refl _,by simp only [cond_false]; omega⟩
 | true=>
  obtain ⟨h1,h2⟩:=Iu hw
  simp only [cond_true]
  have hc:w=1∨w=2∨w=3∨w=4∨w=5∨w=6∨w=7∨w=8:=by omega
  rcases hc with rfl | rfl | rfl | rfl | rfl | rfl | rfl | rfl<;>split<;>omega
theorem Bci {b:List Bq} (h:∀ c∈b,Rh c=true):(Im b).length≤200 * b.length:=by
 induction b with
 | nil=>simp [Im]
 | cons c r ih=>
  have h1:=(h9 (h c (by simp))).2
  have h2:=ih fun c hc=>h c (by simp [hc])
  have e:Im (c::r)=Xh c++Im r:=rfl
  rw [e,Lw,List.length_cons]
  omega
theorem P7 (b:List Bq):(Hu b).size≤4000:=by
 unfold Hu
 cases hv:Br b with
 | false=>exact Nat.zero_le _
 | true=>
  obtain ⟨_,h2,h3⟩:=Asj hv
  have:=Bci h3
  show (strOfNums (Im b)).size≤4000
  rw [Gb]
  omega
theorem Aju {α σ:Type} (z:α) (Inv:Nat→σ→Prop) (step:Nat→α→σ→σ) {xs:List α} (hi:∀ i s,i < xs.length→Inv i s→Inv (i + 1) (step i (xs.getD i z) s)):
  ∀ (k i:Nat) s,i + k=xs.length→Inv i s→Inv xs.length (Gu step i (xs.drop i) s)
 | 0,i,s,h,hI=>by
  have:i=xs.length:=by omega
  subst this
  rw [List.drop_length]
  exact hI
 | k + 1,i,s,h,hI=>by
  rw [L1 xs i z (by omega)]
  exact Aju z Inv step hi k (i + 1) _ (by omega) (hi i s (by omega) hI)
theorem Xs (s:Dh):(Eh s).length≤101:=by
 unfold Eh
 cases hv:Av s with
 | false=>simp
 | true=>
  have hl:=Gc hv
  have:=Aju zP A5n Ux (xs:=s.1) (fun i r hi hI=>hI.step (by omega) _) s.1.length 0 ([],false,[]) (by omega) ⟨by omega,by simp,fun q=>by omega,by simp⟩
  simp only [cond_true]
  rw [A9v]
  have h1:=this.2.1
  show (A0d 0 s.1 ([],false,[])).1.length + _≤101
  have h2:(A0d 0 s.1 ([],false,[])).2.1.toNat≤1:=by cases (A0d 0 s.1 ([],false,[])).2.1<;>decide
  have h3:(A0d 0 s.1 ([],false,[])).1.length≤s.1.length:=h1
  omega
def Yb (s:Dh) (w:Int):Int:=bif Fg w 1 8 then (((Eh s).map fun b=>Gy (Hu b).size w).sum) else 0
theorem Asm {α:Type} (f:α→Int):∀ (l:List α) (i:Nat) (a:Int),Gu (fun _ b a=>a + f b) i l a=a + (l.map f).sum
 | [],_,a=>by simp [Gu]
 | x::r,i,a=>by
  show Gu _ (i + 1) r (a + f x)=_
  rw [Asm f r,List.map_cons,List.sum_cons]
  omega
theorem Bhu {α:Type} (l:List α):(l.map fun _=>(0:Int)).sum=0:=by
 induction l with
 | nil=>rfl
 | cons x r ih=>rw [List.map_cons,List.sum_cons,ih]; rfl
theorem A9x (s:Dh) (w:Int):((Eh s).map fun b=>Gy (Hu b).size w).sum=Yb s w:=by
 unfold Yb
 cases hw:Fg w 1 8 with
 | true=>rfl
 | false=>
  have:(fun b:List Bq=>Gy (Hu b).size w)=fun _=>0:=by funext b; unfold Gy; rw [hw]; rfl
  rw [this,Bhu]
  rfl
def Bfh (i:Nat) (a:Int):Prop:=i≤101∧0≤a∧a≤5000 * (i:Int)
theorem Bfh.step {i:Nat} {a:Int} (h:Bfh i a) (hi:i < 101) (b:List Bq) (w:Int):Bfh (i + 1) (a + Gy (Hu b).size w):=by
 have h1:=Asl (Hu b).size w
 have h2:=P7 b
 obtain ⟨_,h3,h4⟩:=h
 exact ⟨by omega,by omega,by omega⟩
theorem A0l {i:Nat} {a:Int} (h:Bfh i a) (b:List Bq) (w:Int):IntKind.wrap IntKind.i64 (a + Gy (Hu b).size w)=a + Gy (Hu b).size w:=by
 have h1:=Asl (Hu b).size w
 have h2:=P7 b
 obtain ⟨_,h3,h4⟩:=h
 exact Aj (by omega) (by omega)
def Au (n:Int):Int:=bif Fg n 8 200 then (n - 2) / 2 else 0
theorem Au4 {n:Int} (h1:8≤n) (h2:n≤200):IntKind.wrap IntKind.i64 (Int.tdiv (IntKind.wrap IntKind.i64 (n - 2)) 2)=(n - 2) / 2:=by
 rw [Aj (n:=n - 2) (by omega) (by omega),Int.tdiv_eq_ediv_of_nonneg (by omega)]
 exact Aj (by omega) (by omega)
theorem Qx (n:Int):0≤Au n∧Au n≤99:=by
 unfold Au
 cases h:Fg n 8 200 with
 | false=>simp only [cond_false]; omega
 | true=>
  obtain ⟨h1,h2⟩:=Iu h
  simp only [cond_true]
  omega
def Mr (s:Ls):Bool:=decide (0 < Au s.2.1)&&(Fg s.1 1 8&&(Fg s.2.2.1 1 60000&&(Fg s.2.2.2.1.1 0 1000000000&&(P3 s.2.2.2.1&&(Fg s.2.2.2.1.2.2.2.1 0 60000&&(Fg s.2.2.2.2.1 0 (Au s.2.1)&&(Fg s.2.2.2.2.2.1 0 s.2.2.2.2.1&&(Av s.2.2.2.2.2.2.1&&decide (Yb s.2.2.2.2.2.2.1 s.1≤Au s.2.1 - 1)))))))))
theorem Bjd (a b:Bool):(bif a then some ((b,()),()) else some ((false,()),()))=(some ((a&&b,()),()):Option ((Bool×Unit)×Unit)):=by cases a<;>rfl
theorem Blx (a b:Bool):(bif !a then some ((false,()),()) else some ((b,()),()))=(some ((a&&b,()),()):Option ((Bool×Unit)×Unit)):=by cases a<;>rfl
theorem i6 (n:Int):IntKind.wrap IntKind.i64 (Au n - 1)=Au n - 1:=by
 have:=Qx n
 exact Aj (by omega) (by omega)
theorem A9y (n:Int) (b:Bool):(bif Au n==0 then some ((false,()),()) else some ((b,()),()))=(some ((decide (0 < Au n)&&b,()),()):Option ((Bool×Unit)×Unit)):=by
 have:=Qx n
 by_cases h:Au n=0
 ·rw [h]; rfl
 ·rw [beq_eq_false_iff_ne.2 h,Ap (by omega)]; rfl
def zSt:Ls:=(0,0,0,(0,0,0,0,()),0,0,([],()),())
def A9z (c:Int):Don:=(c,zSt,[],())
def Bdz:Ny:=(true,0,⟨#[]⟩,())
def Asn (at':Int) (data:Aa):Ny:=(false,at',data,())
abbrev tSt:Ty:=.pair (.sl (.pair .str (.pair .str .unit))) .unit
theorem Av9 {s:Dh} (h:Av s=true):∀ p∈s.1,1≤p.1.size∧p.1.size≤20∧p.2.1.size≤100:=fun p hp=>by
 obtain ⟨i,hi,rfl⟩:=Agy zP hp
 have:=Aa6 (C6 h).2 i hi
 unfold M4 at this
 obtain ⟨h1,h2⟩:=C6 this
 obtain ⟨h2,_⟩:=C6 h2
 have h3:=Iu h1
 exact ⟨by omega,by omega,F0 h2⟩
theorem Bcj {s:Dh} (h:Av s=true):Uy tSt s=true:=by
 have hl:=Gc h
 show ((decide (s.1.length≤1073741824)&&List.all s.1 (Uy (.pair .str (.pair .str .unit))))&&true)=true
 rw [Ap (show s.1.length≤1073741824 by omega),Bool.true_and,Bool.and_true]
 refine List.all_eq_true.2 fun p hp=>?_
 obtain ⟨_,h1,h2⟩:=Av9 h p hp
 show (decide (p.1.size≤1073741824)&&(decide (p.2.1.size≤1073741824)&&true))=true
 rw [Ap (show p.1.size≤1073741824 by omega),Ap (show p.2.1.size≤1073741824 by omega)]
 rfl
abbrev ScT:=Int×Int×Aa×List Aa×Int×Int
def A0m (wk wl:Int) (p:Pg):Bool:=bif decide (p.2.1 < wl) then false else bif p.1==3 then wk != 1 else bif p.1==1 || p.1==2 then wk != 1 || wl==p.2.1 else false
def N4 (i:Int) (p:Pg) (s:ScT):ScT:=
 bif p.1==1 then (1,p.2.1,s.2.2.1++p.2.2.2.1,s.2.2.2.1,s.2.2.2.2.1,s.2.2.2.2.2)
 else bif p.1==2 then (2,p.2.1,z0,s.2.2.2.1++[s.2.2.1++p.2.2.2.1],i + 1,p.2.1)
 else (p.1,p.2.1,z0,s.2.2.2.1,i + 1,p.2.1)
def Bd0 (s:ScT):Scd:=(s.2.2.2.1,s.2.2.2.2.1,s.2.2.2.2.2,())
def Aso (w first i:Int) (s:ScT) (x:Aa):Bool:=(Dq x w).2&&(((Dq x w).1.2.2.1 - i==first)&&A0m s.1 s.2.1 (Dq x w).1)
def P8 (w first:Int):List Aa→Int→ScT→Scd
 | [],_,s=>Bd0 s
 | x::r,i,s=>bif Aso w first i s x then P8 w first r (i + 1) (N4 i (Dq x w).1 s) else Bd0 s
def seen (d:Dk) (a:Int) (k n:Nat):List Aa:=(List.range' k n).map fun k:Nat=>Xg d (a + (k:Int))
def i7 (d:Dk) (from_ size first life w:Int):Scd:=
 bif B1 d&&(Fg w 1 8&&(decide (0≤from_)&&(decide (0≤size)&&(decide (from_≤(d.1.length:Int))&&decide (size≤(d.1.length:Int) - from_))))) then P8 w first (seen d from_ 0 size.toNat) 0 (0,life,z0,[],0,life) else ([],0,0,())
theorem Bhw {d:Dk} (hd:P5 d) {a:Int} {j:Nat} (hj:j < d.1.length) (ha:a=(j:Int):=by omega):List.getD (O2 d.1 d.2.1) j (Ac)=Xg d a:=by
 subst ha
 have:=A9g d.1 j hj d.2.1 (fun w hw=>by
  obtain ⟨i,hi,rfl⟩:=Agy zW hw
  exact (hd.pen i hi).1)
 unfold Xg
 rw [Eo]
 exact this
theorem Ayq {x:Aa} {w:Int} {p:Pg} (h:Dq x w=(p,true)):(1≤p.1∧p.1≤4)∧(1≤p.2.2.1∧p.2.2.1≤1000000000)∧p.2.2.2.1.size≤64:=by
 obtain ⟨_,_,_,h4⟩:=Ya h
 obtain ⟨k1,_,k3⟩:=Ag0 h4
 obtain ⟨_,w1,w2,k4⟩:=X7 h4
 exact ⟨k1,k3,by omega⟩
def Aej (i:Nat) (s:ScT):Prop:=i≤200∧s.2.2.1.size≤64 * i∧s.2.2.2.1.length≤i
theorem Aej.zero (a b c l:Int):Aej 0 (a,b,z0,[],c,l):=⟨by omega,Nat.le_refl 0,Nat.le_refl 0⟩
theorem Aej.next {i:Nat} {s:ScT} {p:Pg} (h:Aej i s) (hi:i < 200) (hp:p.2.2.2.1.size≤64):Aej (i + 1) (N4 i p s):=by
 obtain ⟨_,h2,h3⟩:=h
 unfold N4
 cases (p.1==1)
 ·cases (p.1==2)
  ·exact ⟨by omega,Nat.zero_le _,by simp only [cond_false]; omega⟩
  ·refine ⟨by omega,Nat.zero_le _,?_⟩
   simp only [cond_false,cond_true,Lw,Nz]
   omega
 ·refine ⟨by omega,?_,by simp only [cond_true]; omega⟩
  simp only [cond_true,ByteArray.size_append]
  omega
abbrev tSc:Ty:=.pair (.sl .str) (.pair (.int .i64) (.pair (.int .i64) .unit))
theorem A0n {l:List Aa} {n:Nat} (h1:l.length≤1000000) (h2:∀ x∈l,x.size≤n) (hn:n≤1000000):Uy (.sl .str) l=true:=by
 show (decide (l.length≤1073741824)&&List.all l (fun x=>decide (ByteArray.size x≤1073741824)))=true
 rw [Ap (by omega),Bool.true_and]
 exact List.all_eq_true.2 fun x hx=>Ap (by have:=h2 x hx; omega)
theorem Au5 (w first:Int):∀ (l:List Aa) (i:Nat) (st:ScT),i + l.length≤200→Aej i st→(∀ x∈st.2.2.2.1,x.size≤12864)→Uy tSc (P8 w first l i st)=true
 | [],i,st,h,hI,he=>by
  show (Uy (.sl .str) st.2.2.2.1&&true)=true
  rw [A0n (by have:=hI.2.2; omega) he (by decide)]
  rfl
 | x::r,i,st,h,hI,he=>by
  rw [List.length_cons] at h
  unfold P8
  cases hs:Aso w first i st x with
  | false=>
   show (Uy (.sl .str) st.2.2.2.1&&true)=true
   rw [A0n (by have:=hI.2.2; omega) he (by decide)]
   rfl
  | true=>
   obtain ⟨hr,_⟩:=C6 hs
   obtain ⟨p,ok,hR⟩:∃ p ok,Dq x w=(p,ok):=⟨_,_,rfl⟩
   rw [hR] at hr
   have hr:ok=true:=hr
   subst hr
   obtain ⟨_,_,q3⟩:=Ayq hR
   rw [hR]
   have hN:=hI.next (p:=p) (by omega) q3
   refine Au5 w first r (i + 1) _ (by omega) hN fun y hy=>?_
   unfold N4 at hy
   cases h1:(p.1==1) with
   | true=>rw [h1] at hy; exact he y hy
   | false=>
    rw [h1] at hy
    cases h2:(p.1==2) with
    | false=>rw [h2] at hy; exact he y hy
    | true=>
     rw [h2] at hy
     simp only [cond_false,cond_true,List.mem_append,List.mem_singleton] at hy
     rcases hy with hy | rfl
     ·exact he y hy
     ·rw [ByteArray.size_append]
      have:=hI.2.1
      omega
theorem A90 (d:Dk) (a:Int) (k n:Nat):(seen d a k n).length=n:=by simp [seen]
theorem A0o (d:Dk) (f n first life w:Int):Uy tSc (i7 d f n first life w)=true:=by
 unfold i7
 cases hc:(B1 d&&(Fg w 1 8&&(decide (0≤f)&&(decide (0≤n)&&(decide (f≤(d.1.length:Int))&&decide (n≤(d.1.length:Int) - f)))))) with
 | false=>rfl
 | true=>
  obtain ⟨hv,h⟩:=C6 hc
  obtain ⟨_,h⟩:=C6 h
  obtain ⟨h1,h⟩:=C6 h
  obtain ⟨h2,h⟩:=C6 h
  obtain ⟨h3,h4⟩:=C6 h
  have h1:=F0 h1
  have h2:=F0 h2
  have h4:=F0 h4
  have:=(Ajq hv).n200
  exact Au5 w first _ 0 _ (by rw [A90]; omega) (Aej.zero _ _ _ _) (fun x hx=>by cases hx)
def Xj (s:Ls):Bool:=s.1==0&&(s.2.1==0&&(s.2.2.1==0&&((s.2.2.2.1.1==0&&(s.2.2.2.1.2.1==0&&(s.2.2.2.1.2.2.1==0&&s.2.2.2.1.2.2.2.1==0)))&&(s.2.2.2.2.1==0&&(s.2.2.2.2.2.1==0&&(nI s.2.2.2.2.2.2.1.1.length==0))))))
def zSs:Dh:=([],())
def Aa8 (w:S4):Bool:=bif w.2.2.1 then Mr w.2.2.2.1&&(w.2.2.2.1.1==w.1&&w.2.2.2.1.2.1==nI w.2.1.1.length) else Xj w.2.2.2.1
def Yc (w:S4):Bool:=(List.range' 0 w.2.2.2.2.1.length).all fun i=>Av (w.2.2.2.2.1.getD i zSs)
def L4 (w:S4):Bool:=(List.range' 0 w.2.2.2.2.2.1.length).all fun i=>decide ((w.2.2.2.2.2.1.getD i z0).size=64)
def In (w:S4):Bool:=Fg w.1 1 8&&(B1 w.2.1&&(Fg w.2.2.2.2.1.length 1 200&&(decide (w.2.2.2.2.2.1.length≤2000)&&(Aa8 w&&(Yc w&&L4 w)))))
theorem Aae {α β:Type} {x:Option α} {y:α} {f:α→Option β} {z:Option β} (h:x=some y) (k:f y=z):x.bind f=z:=by rw [h]; exact k
def Lq:Int→List Aa→List Ny
 | _,[]=>[]
 | a,x::r=>Asn a x::Lq (a + 1) r
theorem A5o (x:Aa):∀ (L:List Aa) (a:Int),Lq a (L++[x])=Lq a L++[Asn (a + (L.length:Int)) x]
 | [],a=>by show [Asn a x]=[Asn (a + (0:Int)) x]; rw [Int.add_zero]
 | y::L,a=>by
  show Asn a y::Lq (a + 1) (L++[x])=Asn a y::(Lq (a + 1) L++[Asn (a + ((L.length + 1:Nat):Int)) x])
  rw [A5o x L (a + 1),show a + 1 + (L.length:Int)=a + ((L.length + 1:Nat):Int) by omega]
theorem Ajv:∀ (L:List Aa) (a:Int),(Lq a L).length=L.length
 | [],_=>rfl
 | _::L,a=>by show (Lq (a + 1) L).length + 1=L.length + 1; rw [Ajv L]
theorem A5p (a:Int):∀ (L:List Aa) (i:Nat) (r:List Ny),Gu (fun (i:Nat) x r=>r++[Asn (a + (i:Int)) x]) i L r=r++Lq (a + (i:Int)) L
 | [],i,r=>(List.append_nil r).symm
 | x::L,i,r=>by
  show Gu _ (i + 1) L (r++[Asn (a + (i:Int)) x])=_
  rw [A5p a L (i + 1),List.append_assoc,show a + ((i + 1:Nat):Int)=a + (i:Int) + 1 by omega]
  rfl
theorem A0p {α:Type}:∀ (L:List α) (i:Nat) (r:List α),Gu (fun (_:Nat) x r=>r++[x]) i L r=r++L
 | [],i,r=>(List.append_nil r).symm
 | x::L,i,r=>by
  show Gu _ (i + 1) L (r++[x])=_
  rw [A0p L (i + 1),List.append_assoc]
  rfl
def Ck (h n:Int):Int:=2 + h * Au n
def Bjz (s:Ls) (life:Int):Rt:=(s.2.2.2.1.1 + 1,1 - s.2.2.2.1.2.1,s.2.2.2.1.2.2.1 + Au s.2.1,life,())
def Adt (w life first:Int) (b:List Bq) (L:List Aa):List Aa:=L++A0c (Hu b) life (first + (L.length:Int)) w
def mvL (s:Ls) (life:Int):List Aa:=Gu (fun _ b L=>Adt s.1 life (s.2.2.2.1.2.2.1 + Au s.2.1) b L) 0 (Eh s.2.2.2.2.2.2.1) [E7 (3,life,s.2.2.2.1.2.2.1 + Au s.2.1,z0,()) s.1]
def Blf (s:Ls) (life:Int):List Ny:=Lq (Ck (1 - s.2.2.2.1.2.1) s.2.1) (mvL s life)++[Bdz,Asn (Int.tmod (s.2.2.2.1.1 + 1) 2) (Aa4 (Bjz s life) s.1),Bdz]
def Apa (s:Ls) (life:Int):Ls×List Ny×Bool:=
 bif decide (s.2.2.2.1.1 + 1 > 1000000000) then (zSt,[],false) else bif decide (s.2.2.2.1.2.2.1 + Au s.2.1 > 999999000) then (zSt,[],false) else
 ((s.1,s.2.1,life,Bjz s life,nI (mvL s life).length,0,s.2.2.2.2.2.2.1,()),Blf s life,true)
def A61 (s:Ls):Prop:=(0≤s.2.2.2.1.1∧s.2.2.2.1.1≤1000000000)∧(0≤s.2.2.2.1.2.1∧s.2.2.2.1.2.1≤1)∧(0≤s.2.2.2.1.2.2.1∧s.2.2.2.1.2.2.1≤1000000000)∧s.2.2.2.2.2.2.1.1.length≤1000000
instance (s:Ls):Decidable (A61 s):=by unfold A61; infer_instance
theorem A62 (b:List Bq) (life f w:Int):(A0c (Hu b) life f w).length≤4001:=by
 unfold A0c
 cases hw:Fg w 1 8 with
 | false=>simp
 | true=>
  cases hc:(true&&(Fg life 1 60000&&(decide (1≤f)&&decide (f≤1000000000 - Gy (Hu b).size w + 1)))) with
  | false=>simp
  | true=>
   simp only [cond_true]
   rw [Ag1,List.length_map,List.length_range']
   have h1:=A9w (Hu b) w
   rw [hw,cond_true] at h1
   have h2:=(Asl (Hu b).size w).2
   have h3:=P7 b
   omega
def MvI (i:Nat) (L:List Aa):Prop:=i≤101∧L.length≤1 + 4001 * i
theorem MvI.step {i:Nat} {L:List Aa} (h:MvI i L) (hi:i < 101) (w life first:Int) (b:List Bq):MvI (i + 1) (Adt w life first b L):=by
 obtain ⟨h1,h2⟩:=h
 refine ⟨by omega,?_⟩
 unfold Adt
 have:=A62 b life (first + (L.length:Int)) w
 rw [Lw]
 omega
theorem A63 (s:Ls) (life:Int):(mvL s life).length≤500000:=by
 have h:=Aju ([]:List Bq) MvI (fun _ b L=>Adt s.1 life (s.2.2.2.1.2.2.1 + Au s.2.1) b L) (xs:=Eh s.2.2.2.2.2.2.1) (fun i L hi hI=>hI.step (Nat.lt_of_lt_of_le hi (Xs _)) _ _ _ _) (Eh s.2.2.2.2.2.2.1).length 0 [E7 (3,life,s.2.2.2.1.2.2.1 + Au s.2.1,z0,()) s.1] (by omega) ⟨by omega,by simp⟩
 have h2:=Xs s.2.2.2.2.2.2.1
 have h3:=h.2
 have h4:(mvL s life).length≤1 + 4001 * (Eh s.2.2.2.2.2.2.1).length:=h3
 omega
def Au6 (s:Ls):Don:=bif (Apa s s.2.2.1).2.2 then (0,(Apa s s.2.2.1).1,(Apa s s.2.2.1).2.1,()) else A9z 4
theorem Ayr {H n:Int} (hH:0≤H∧H≤1):0≤H * Au n∧H * Au n≤99:=by
 have hh:=Qx n
 have:H=0∨H=1:=by omega
 rcases this with rfl | rfl<;>omega
theorem Bje {w:S4} (h:In w=true):B1 w.2.1=true∧w.2.2.2.2.2.1.length≤2000∧(1≤w.2.2.2.2.1.length∧w.2.2.2.2.1.length≤200):=by
 unfold In at h
 obtain ⟨_,h⟩:=C6 h
 obtain ⟨h1,h⟩:=C6 h
 obtain ⟨h2,h⟩:=C6 h
 obtain ⟨h3,h⟩:=C6 h
 have h2:=Iu h2
 exact ⟨h1,F0 h3,by omega⟩
theorem A0q:∀ x:List UInt8,Op.bytesLess x x=false
 | []=>rfl
 | a::x=>by simp [Op.bytesLess,A0q x]
theorem A5q:∀ {x y z:List UInt8},Op.bytesLess x y=true→Op.bytesLess y z=true→Op.bytesLess x z=true
 | [],[],_,h,_=>by simp [Op.bytesLess] at h
 | [],_::_,[],_,k=>by simp [Op.bytesLess] at k
 | [],_::_,_::_,_,_=>rfl
 | _::_,[],_,h,_=>by simp [Op.bytesLess] at h
 | _::_,_::_,[],_,k=>by simp [Op.bytesLess] at k
 | a::x,b::y,c::z,h,k=>by
  simp only [Op.bytesLess,Bool.or_eq_true,decide_eq_true_eq,Bool.and_eq_true,beq_iff_eq] at h k ⊢
  rcases h with h | ⟨rfl,h⟩
  ·rcases k with k | ⟨rfl,k⟩
   ·exact .inl (UInt8.lt_trans h k)
   ·exact .inl h
  ·rcases k with k | ⟨rfl,k⟩
   ·exact .inl k
   ·exact .inr ⟨rfl,A5q h k⟩
theorem Bd1:∀ {x y:List UInt8},Op.bytesLess x y=false→Op.bytesLess y x=false→x=y
 | [],[],_,_=>rfl
 | [],_::_,h,_=>by simp [Op.bytesLess] at h
 | _::_,[],_,k=>by simp [Op.bytesLess] at k
 | a::x,b::y,h,k=>by
  simp only [Op.bytesLess,Bool.or_eq_false_iff,decide_eq_false_iff_not,Bool.and_eq_false_iff] at h k
  have hab:a=b:=by
   apply UInt8.le_antisymm
   ·exact UInt8.not_lt.1 k.1
   ·exact UInt8.not_lt.1 h.1
  subst hab
  have h2:Op.bytesLess x y=false:=by rcases h.2 with q | q<;>simp_all
  have k2:Op.bytesLess y x=false:=by rcases k.2 with q | q<;>simp_all
  rw [Bd1 h2 k2]
theorem Aa9 (a:Aa):bl a a=false:=A0q _
theorem Aba {a b c:Aa} (h:bl a b=true) (k:bl b c=true):bl a c=true:=A5q h k
theorem A64 {a b:Aa} (h:bl a b=false) (k:bl b a=false):a=b:=H9.1 (beq_iff_eq.2 (Bd1 h k))
theorem Bj0 {a b:Aa} (h:bl a b=true):a≠b:=fun q=>by rw [q,Aa9] at h; cases h
def Srt (l:List Ar):Prop:=l.Pairwise fun a b=>bl a.1 b.1=true
theorem A65:∀ {l m:List Ar},Srt l→Srt m→(∀ x,x∈l↔x∈m)→l=m
 | [],[],_,_,_=>rfl
 | [],b::m,_,_,h=>by have:=(h b).2 List.mem_cons_self; cases this
 | a::l,[],_,_,h=>by have:=(h a).1 List.mem_cons_self; cases this
 | a::l,b::m,hl,hm,h=>by
  obtain ⟨l1,l2⟩:=List.pairwise_cons.1 hl
  obtain ⟨m1,m2⟩:=List.pairwise_cons.1 hm
  have hab:a=b:=by
   rcases List.mem_cons.1 ((h a).1 List.mem_cons_self) with q | q
   ·exact q
   ·rcases List.mem_cons.1 ((h b).2 List.mem_cons_self) with q2 | q2
    ·exact q2.symm
    ·have:=Aba (m1 a q) (l1 b q2)
     rw [Aa9] at this
     cases this
  subst hab
  rw [A65 l2 m2 fun x=>⟨fun q=>?_,fun q=>?_⟩]
  ·rcases List.mem_cons.1 ((h x).1 (List.mem_cons_of_mem _ q)) with rfl | q2
   ·have:=l1 x q; rw [Aa9] at this; cases this
   ·exact q2
  ·rcases List.mem_cons.1 ((h x).2 (List.mem_cons_of_mem _ q)) with rfl | q2
   ·have:=m1 x q; rw [Aa9] at this; cases this
   ·exact q2
theorem A0r (p x:Ar):∀ l:List Ar,x∈Av1 p l↔x=p∨x∈l
 | []=>by simp [Av1]
 | q::r=>by
  simp only [Av1]
  cases ltK q p with
  | true=>simp only [cond_true,List.mem_cons,A0r p x r]; constructor<;>(rintro (h | h | h)<;>simp [h])
  | false=>simp only [cond_false,List.mem_cons]
theorem Ajw (x:Ar):∀ l:List Ar,x∈Rd l↔x∈l
 | []=>Iff.rfl
 | p::r=>by
  show x∈Av1 p (Rd r)↔_
  rw [A0r,Ajw x r,List.mem_cons]
theorem A91 {p:Ar}:∀ {l:List Ar},Srt l→(∀ q∈l,q.1≠p.1)→Srt (Av1 p l)
 | [],_,_=>List.pairwise_singleton _ _
 | q::r,hl,hp=>by
  obtain ⟨l1,l2⟩:=List.pairwise_cons.1 hl
  simp only [Av1]
  cases hq:ltK q p with
  | true=>
   refine List.pairwise_cons.2 ⟨fun x hx=>?_,A91 l2 fun y hy=>hp y (List.mem_cons_of_mem _ hy)⟩
   rcases (A0r p x r).1 hx with rfl | h
   ·exact hq
   ·exact l1 x h
  | false=>
   have hpq:bl p.1 q.1=true:=by
    cases h:bl p.1 q.1 with
    | true=>rfl
    | false=>exact absurd (A64 hq h) (hp q List.mem_cons_self)
   refine List.pairwise_cons.2 ⟨fun x hx=>?_,hl⟩
   rcases List.mem_cons.1 hx with rfl | h
   ·exact hpq
   ·exact Aba hpq (l1 x h)
theorem K6 {p:Ar} {r:List Ar}:E6 (p::r)=true↔(∀ q∈r,q.1≠p.1)∧E6 r=true:=by
 simp only [E6,Bool.and_eq_true,Bool.not_eq_true',List.any_eq_false]
 constructor
 ·rintro ⟨h1,h2⟩
  exact ⟨fun q hq e=>h1 q hq (by rw [e]; simp),h2⟩
 ·rintro ⟨h1,h2⟩
  exact ⟨fun q hq e=>h1 q hq (H9.1 e),h2⟩
theorem Asp:∀ {l:List Ar},E6 l=true→Srt (Rd l)
 | [],_=>List.Pairwise.nil
 | p::r,h=>by
  obtain ⟨h1,h2⟩:=K6.1 h
  exact A91 (Asp h2) fun q hq=>h1 q ((Ajw q r).1 hq)
abbrev Mp:=List (Aa×Aa)
def prs (m:Mp):List Ar:=m.map fun p=>(p.1,p.2,())
theorem Ag3 {k v:Aa} (x:Ar):∀ {m:Mp},E6 (prs m)=true→(x∈prs (Xz k v m)↔(x∈prs m∧x.1≠k)∨x=(k,v,()))
 | [],_=>by simp [Xz,prs]
 | p::r,h=>by
  obtain ⟨h1,h2⟩:=K6.1 (show E6 ((p.1,p.2,())::prs r)=true from h)
  simp only [Xz]
  cases hk:Agd p.1 k with
  | true=>
   have hk:=H9.1 hk
   simp only [cond_true]
   show x∈(k,v,())::prs r↔(x∈(p.1,p.2,())::prs r∧_)∨_
   rw [List.mem_cons,List.mem_cons]
   constructor
   ·rintro (rfl | q)
    ·exact .inr rfl
    ·exact .inl ⟨.inr q,fun e=>h1 x q (by rw [e,hk])⟩
   ·rintro (⟨q | q,e⟩ | q)
    ·subst q
     exact absurd hk e
    ·exact .inr q
    ·exact .inl q
  | false=>
   have hk:p.1≠k:=fun q=>by rw [H9.2 q] at hk; cases hk
   simp only [cond_false]
   show x∈(p.1,p.2,())::prs (Xz k v r)↔(x∈(p.1,p.2,())::prs r∧_)∨_
   rw [List.mem_cons,List.mem_cons,Ag3 x h2]
   constructor
   ·rintro (rfl | ⟨q,e⟩ | q)
    ·exact .inl ⟨.inl rfl,hk⟩
    ·exact .inl ⟨.inr q,e⟩
    ·exact .inr q
   ·rintro (⟨q | q,e⟩ | q)
    ·exact .inl q
    ·exact .inr (.inl ⟨q,e⟩)
    ·exact .inr (.inr q)
theorem Amh {k v:Aa}:∀ {m:Mp},E6 (prs m)=true→E6 (prs (Xz k v m))=true
 | [],_=>rfl
 | p::r,h=>by
  obtain ⟨h1,h2⟩:=K6.1 (show E6 ((p.1,p.2,())::prs r)=true from h)
  simp only [Xz]
  cases hk:Agd p.1 k with
  | true=>
   have hk:=H9.1 hk
   simp only [cond_true]
   exact K6.2 ⟨fun q hq=>by rw [← hk]; exact h1 q hq,h2⟩
  | false=>
   have hk:p.1≠k:=fun q=>by rw [H9.2 q] at hk; cases hk
   simp only [cond_false]
   refine K6.2 ⟨fun q hq=>?_,Amh h2⟩
   rcases (Ag3 q h2).1 hq with ⟨a,_⟩ | rfl
   ·exact h1 q a
   ·exact fun e=>hk e.symm
theorem A0s {k:Aa} (x:Ar):∀ {m:Mp},E6 (prs m)=true→(x∈prs (Age k m)↔x∈prs m∧x.1≠k)
 | [],_=>by simp [Age,prs]
 | p::r,h=>by
  obtain ⟨h1,h2⟩:=K6.1 (show E6 ((p.1,p.2,())::prs r)=true from h)
  simp only [Age]
  cases hk:Agd p.1 k with
  | true=>
   have hk:=H9.1 hk
   simp only [cond_true]
   show x∈prs r↔x∈(p.1,p.2,())::prs r∧_
   rw [List.mem_cons]
   constructor
   ·intro q
    exact ⟨.inr q,fun e=>h1 x q (by rw [e,hk])⟩
   ·rintro ⟨q | q,e⟩
    ·subst q
     exact absurd hk e
    ·exact q
  | false=>
   have hk:p.1≠k:=fun q=>by rw [H9.2 q] at hk; cases hk
   simp only [cond_false]
   show x∈(p.1,p.2,())::prs (Age k r)↔x∈(p.1,p.2,())::prs r∧_
   rw [List.mem_cons,List.mem_cons,A0s x h2]
   constructor
   ·rintro (rfl | ⟨q,e⟩)
    ·exact ⟨.inl rfl,hk⟩
    ·exact ⟨.inr q,e⟩
   ·rintro ⟨q | q,e⟩
    ·exact .inl q
    ·exact .inr ⟨q,e⟩
theorem A0t {k:Aa}:∀ {m:Mp},E6 (prs m)=true→E6 (prs (Age k m))=true
 | [],_=>rfl
 | p::r,h=>by
  obtain ⟨h1,h2⟩:=K6.1 (show E6 ((p.1,p.2,())::prs r)=true from h)
  simp only [Age]
  cases hk:Agd p.1 k with
  | true=>exact h2
  | false=>
   simp only [cond_false]
   exact K6.2 ⟨fun q hq=>h1 q ((A0s q h2).1 hq).1,A0t h2⟩
def gtS (a k:Aa):Bool:=!(bl a k || a.toList==k.toList)
def Qy (k v:Aa):Bool→List Ar→List Ar
 | d,[]=>bif d then [] else [(k,v,())]
 | d,p::r=>bif !d&&gtS p.1 k then (k,v,())::p::Qy k v true r else bif p.1.toList==k.toList then Qy k v d r else p::Qy k v d r
def A0u (c:Bq) (l:List Ar):List Ar:=Qy c.1 c.2.1 c.2.2.1 l
theorem Bj1 {a k:Aa} (h:gtS a k=true):bl k a=true:=by
 unfold gtS at h
 rw [Bool.not_eq_true',Bool.or_eq_false_iff] at h
 cases q:bl k a with
 | true=>rfl
 | false=>exact absurd (A64 h.1 q) (fun e=>by rw [e] at h; simp at h)
theorem i8 {k v:Aa} (x:Ar):∀ (l:List Ar) (d:Bool),x∈Qy k v d l↔(x∈l∧x.1≠k)∨(d=false∧x=(k,v,()))
 | [],d=>by cases d<;>simp [Qy]
 | p::r,d=>by
  simp only [Qy]
  cases hg:!d&&gtS p.1 k with
  | true=>
   obtain ⟨hd,hg⟩:=C6 hg
   have hd:d=false:=by cases d<;>simp_all
   have hp:p.1≠k:=fun e=>Bj0 (Bj1 hg) e.symm
   subst hd
   simp only [cond_true,List.mem_cons,i8 x r true]
   constructor
   ·rintro (q | q | q | q)
    ·exact .inr ⟨by simp,q⟩
    ·exact .inl ⟨.inl q,by rw [q]; exact hp⟩
    ·exact .inl ⟨.inr q.1,q.2⟩
    ·cases q.1
   ·rintro (⟨q | q,e⟩ | q)
    ·exact .inr (.inl q)
    ·exact .inr (.inr (.inl ⟨q,e⟩))
    ·exact .inl q.2
  | false=>
   simp only [cond_false]
   cases he:p.1.toList==k.toList with
   | true=>
    have he:p.1=k:=H9.1 he
    simp only [cond_true,List.mem_cons,i8 x r d]
    constructor
    ·rintro (q | q)
     ·exact .inl ⟨.inr q.1,q.2⟩
     ·exact .inr q
    ·rintro (⟨q | q,e⟩ | q)
     ·exact absurd (by rw [q]; exact he) e
     ·exact .inl ⟨q,e⟩
     ·exact .inr q
   | false=>
    have he:p.1≠k:=fun q=>by rw [show (p.1.toList==k.toList)=true from H9.2 q] at he; cases he
    simp only [cond_false,List.mem_cons,i8 x r d]
    constructor
    ·rintro (q | q | q)
     ·exact .inl ⟨.inl q,by rw [q]; exact he⟩
     ·exact .inl ⟨.inr q.1,q.2⟩
     ·exact .inr q
    ·rintro (⟨q | q,e⟩ | q)
     ·exact .inl q
     ·exact .inr (.inl ⟨q,e⟩)
     ·exact .inr (.inr q)
theorem Ajx {k v:Aa}:∀ (l:List Ar) (d:Bool),Srt l→Srt (Qy k v d l)
 | [],d,_=>by cases d<;>simp [Qy,Srt]
 | p::r,d,h=>by
  obtain ⟨h1,h2⟩:=List.pairwise_cons.1 h
  simp only [Qy]
  cases hg:!d&&gtS p.1 k with
  | true=>
   obtain ⟨hd,hg⟩:=C6 hg
   have hkp:=Bj1 hg
   simp only [cond_true]
   have hall:∀ x∈Qy k v true r,x∈r:=fun x hx=>by
    rcases (i8 x r true).1 hx with q | q
    ·exact q.1
    ·cases q.1
   refine List.pairwise_cons.2 ⟨fun x hx=>?_,List.pairwise_cons.2 ⟨fun x hx=>h1 x (hall x hx),Ajx r true h2⟩⟩
   rcases List.mem_cons.1 hx with rfl | q
   ·exact hkp
   ·exact Aba hkp (h1 x (hall x q))
  | false=>
   simp only [cond_false]
   cases he:p.1.toList==k.toList with
   | true=>exact Ajx r d h2
   | false=>
    simp only [cond_false]
    refine List.pairwise_cons.2 ⟨fun x hx=>?_,Ajx r d h2⟩
    rcases (i8 x r d).1 hx with q | ⟨hd,rfl⟩
    ·exact h1 x q.1
    ·subst hd
     have hn:gtS p.1 k=false:=by simpa using hg
     unfold gtS at hn
     rw [he,Bool.or_false,Bool.not_eq_false'] at hn
     exact hn
def Au7 (c:Bq) (m:Mp):Mp:=bif c.2.2.1 then Age c.1 m else Xz c.1 c.2.1 m
def Ajy (m:Mp) (l:List Ar):Prop:=E6 (prs m)=true∧Srt l∧∀ x,x∈prs m↔x∈l
theorem Ajy.step {m:Mp} {l:List Ar} (h:Ajy m l) (c:Bq):Ajy (Au7 c m) (A0u c l):=by
 obtain ⟨h1,h2,h3⟩:=h
 unfold Au7 A0u
 cases hc:c.2.2.1 with
 | true=>
  refine ⟨A0t h1,Ajx _ _ h2,fun x=>?_⟩
  simp only [cond_true]
  rw [A0s x h1,i8,h3]
  simp
 | false=>
  refine ⟨Amh h1,Ajx _ _ h2,fun x=>?_⟩
  simp only [cond_false]
  rw [Ag3 x h1,i8,h3]
  simp
theorem Ajy.sort {m:Mp} {l ys:List Ar} (h:Ajy m l) (hn:E6 ys=true) (hy:∀ x,x∈ys↔x∈prs m):Rd ys=l:=
 A65 (Asp hn) h.2.1 fun x=>by rw [Ajw,hy,h.2.2]
theorem Ajy.len {m:Mp} {l:List Ar} (h:Ajy m l):m.length=l.length:=by
 have:=congrArg List.length (h.sort h.1 fun _=>Iff.rfl)
 rw [Aa0] at this
 simpa [prs] using this
def Ri (l:List Ar) (b:List Bq):List Ar:=Gu (fun _ c l=>A0u c l) 0 b l
def Rj (s:Dh) (b:List Bq):Dh×Int:=
 bif !Av s then (zSs,1) else bif !Br b then (zSs,1) else bif decide ((Ri s.1 b).length > 100) then (zSs,2) else ((Ri s.1 b,()),0)
theorem Ajy.fold:∀ {b:List Bq} {i:Nat} {m:Mp} {l:List Ar},Ajy m l→Ajy (Gu (fun _ c m=>Au7 c m) i b m) (Gu (fun _ c l=>A0u c l) i b l)
 | [],_,_,_,h=>h
 | c::b,i,m,l,h=>Ajy.fold (b:=b) (i:=i + 1) (h.step c)
def A0v (l:List Ar):Mp:=Gu (fun _ p m=>Xz p.1 p.2.1 m) 0 l []
theorem Bd2:∀ {l:List Ar} {i:Nat} {m:Mp},E6 (prs m)=true→Srt l→(∀ p∈l,∀ x∈prs m,x.1≠p.1)→
  E6 (prs (Gu (fun _ p m=>Xz p.1 p.2.1 m) i l m))=true∧∀ x,x∈prs (Gu (fun _ p m=>Xz p.1 p.2.1 m) i l m)↔x∈prs m∨x∈l
 | [],_,m,h,_,_=>⟨h,fun x=>by simp [Gu]⟩
 | p::r,i,m,h,hs,hk=>by
  obtain ⟨s1,s2⟩:=List.pairwise_cons.1 hs
  obtain ⟨k1,k2⟩:=Bd2 (l:=r) (i:=i + 1) (m:=Xz p.1 p.2.1 m) (Amh h) s2 (fun q hq x hx=>by
   rcases (Ag3 x h).1 hx with ⟨a,_⟩ | rfl
   ·exact hk q (List.mem_cons_of_mem _ hq) x a
   ·exact Bj0 (s1 q hq))
  refine ⟨k1,fun x=>(k2 x).trans ?_⟩
  rw [Ag3 x h,List.mem_cons]
  constructor
  ·rintro ((⟨a,_⟩ | a) | a)
   ·exact .inl a
   ·exact .inr (.inl a)
   ·exact .inr (.inr a)
  ·rintro (a | a | a)
   ·exact .inl (.inl ⟨a,hk p List.mem_cons_self x a⟩)
   ·exact .inl (.inr a)
   ·exact .inr a
theorem Ajy.init {l:List Ar} (h:Srt l):Ajy (A0v l) l:=by
 obtain ⟨h1,h2⟩:=Bd2 (l:=l) (i:=0) (m:=[]) rfl h (fun _ _ x hx=>by cases hx)
 exact ⟨h1,h,fun x=>(h2 x).trans (by simp [prs])⟩
theorem Bhx:∀ {l:List Ar},(∀ i,i + 1 < l.length→bl (l.getD i zP).1 (l.getD (i + 1) zP).1=true)→Srt l
 | [],_=>List.Pairwise.nil
 | [p],_=>List.pairwise_singleton _ _
 | p::q::r,h=>by
  have hr:Srt (q::r):=Bhx fun i hi=>h (i + 1) (by simp only [List.length_cons] at hi ⊢; omega)
  have h0:bl p.1 q.1=true:=h 0 (by simp)
  refine List.pairwise_cons.2 ⟨fun x hx=>?_,hr⟩
  rcases List.mem_cons.1 hx with rfl | hx
  ·exact h0
  ·exact Aba h0 ((List.pairwise_cons.1 hr).1 x hx)
theorem A5r {s:Dh} (h:Av s=true):Srt s.1:=Bhx fun i hi=>by
 have:=Aa6 (C6 h).2 (i + 1) hi
 unfold M4 at this
 obtain ⟨_,this⟩:=C6 this
 obtain ⟨_,this⟩:=C6 this
 simpa using this
theorem A0w {α:Type}:∀ {l:List α} {i:Nat} {e:α},l[i]? = some e→(e::l.eraseIdx i).Perm l
 | [],i,e,h=>by simp at h
 | a::l,0,e,h=>by simp at h; subst h; exact List.Perm.refl _
 | a::l,i + 1,e,h=>by
  simp only [List.getElem?_cons_succ] at h
  simp only [List.eraseIdx_cons_succ]
  exact (List.Perm.swap a e _).trans ((A0w h).cons a)
theorem Adu:∀ {l:List Ar},E6 l=true↔(l.map (·.1)).Nodup
 | []=>by simp [E6]
 | p::r=>by
  rw [K6,List.map_cons,List.nodup_cons,Adu (l:=r)]
  constructor
  ·rintro ⟨h1,h2⟩
   exact ⟨fun q=>by obtain ⟨x,hx,e⟩:=List.mem_map.1 q; exact h1 x hx e,h2⟩
  ·rintro ⟨h1,h2⟩
   exact ⟨fun q hq e=>h1 (List.mem_map.2 ⟨q,hq,e⟩),h2⟩
theorem Ag4 {l m:List Ar} (h:l.Perm m) (hn:E6 l=true):E6 m=true:=Adu.2 (((h.map (·.1)).nodup_iff).1 (Adu.1 hn))
theorem Bhy {R:Type} (M:Mp) (l0:List Ar) (hM:Ajy M l0) (hlen:M.length≤100) {D:Type} (mk:Mp→Option (Aa×Aa)→List Ar→D) {left:D→Mp} {stp:D→Aa×Aa→Mp→Option D} {fin:D→Option R} {res:R}
  (hl:∀ l c r,left (mk l c r)=l) (hs:∀ l c r e l',r.length < 1000→stp (mk l c r) e l'=some (mk l' (some e) (r++[(e.1,e.2,())])))
  (hf:∀ c r,E6 r=true→r.length≤1000→Rd r=l0→fin (mk [] c r)=some res):
  ∀ (n:Nat) (l:Mp) (c:Option (Aa×Aa)) (r:List Ar),l.length=n→(r++prs l).Perm (prs M)→Av4 left stp fin (n + 1) (mk l c r) res
 | 0,l,c,r,hn,hp=>by
  have:l=[]:=List.length_eq_zero_iff.1 hn
  subst this
  have hp':r.Perm (prs M):=by simpa [prs] using hp
  have hl2:=hp'.length_eq
  refine ⟨fun _=>hf c r (Ag4 hp'.symm hM.1) ?_ (hM.sort (Ag4 hp'.symm hM.1) fun x=>hp'.mem_iff),fun i e he=>?_⟩
  ·rw [hl2]; simp only [prs,List.length_map]; omega
  ·rw [hl] at he; simp at he
 | n + 1,l,c,r,hn,hp=>by
  refine ⟨fun q=>?_,fun i e he=>?_⟩
  ·rw [hl] at q; rw [q] at hn; cases hn
  ·rw [hl] at he
   have hq:=A0w he
   have hr:r.length < 1000:=by
    have:=hp.length_eq
    simp only [prs,Lw,List.length_map] at this
    omega
   refine ⟨mk (l.eraseIdx i) (some e) (r++[(e.1,e.2,())]),by rw [hs l c r e _ hr,hl],?_⟩
   refine Bhy M l0 hM hlen mk hl hs hf n (l.eraseIdx i) (some e) (r++[(e.1,e.2,())]) ?_ ?_
   ·have:=hq.length_eq
    simp only [List.length_cons] at this
    omega
   ·refine List.Perm.trans ?_ hp
    rw [List.append_assoc]
    exact List.Perm.append_left r (hq.map fun p:Aa×Aa=>((p.1,p.2,()):Ar))
def Yd (k v:Aa) (p:Ar) (s:Bool×List Ar):Bool×List Ar:=
 bif !s.1&&gtS p.1 k then (true,bif !(p.1.toList==k.toList) then s.2++[(k,v,())]++[(p.1,p.2.1,())] else s.2++[(k,v,())])
 else (s.1,bif !(p.1.toList==k.toList) then s.2++[(p.1,p.2.1,())] else s.2)
def A92 (k v:Aa) (s:Bool×List Ar):List Ar:=bif s.1 then s.2 else s.2++[(k,v,())]
theorem Bd3 (k v:Aa):∀ (l:List Ar) (i:Nat) (s:Bool×List Ar),A92 k v (Gu (fun _ p s=>Yd k v p s) i l s)=s.2++Qy k v s.1 l
 | [],i,s=>by
  show A92 k v s=_
  unfold A92 Qy
  cases s.1<;>simp
 | p::r,i,s=>by
  show A92 k v (Gu (fun _ p s=>Yd k v p s) (i + 1) r (Yd k v p s))=_
  rw [Bd3 k v r (i + 1)]
  unfold Yd
  simp only [Qy]
  cases hg:!s.1&&gtS p.1 k with
  | true=>
   obtain ⟨_,h2⟩:=C6 hg
   have he:(p.1.toList==k.toList)=false:=by
    unfold gtS at h2
    rw [Bool.not_eq_true',Bool.or_eq_false_iff] at h2
    exact h2.2
   rw [he]
   simp only [cond_true,Bool.not_false]
   rw [List.append_assoc,List.append_assoc]
   rfl
  | false=>
   simp only [cond_false]
   cases he:p.1.toList==k.toList with
   | true=>rfl
   | false=>
    simp only [cond_true,cond_false,Bool.not_false]
    rw [List.append_assoc]
    rfl
theorem A0x (k v:Aa) (p:Ar) (s:Bool×List Ar):(Yd k v p s).2.length≤s.2.length + 2:=by
 unfold Yd
 cases !s.1&&gtS p.1 k<;>cases !(p.1.toList==k.toList)<;>simp
theorem Bjf (c:Bq) (l:List Ar):(A0u c l).length≤l.length + 1:=by
 unfold A0u
 generalize c.2.2.1=d
 induction l generalizing d with
 | nil=>cases d<;>simp [Qy]
 | cons p r ih=>
  simp only [Qy]
  have ht:∀ r:List Ar,(Qy c.1 c.2.1 true r).length≤r.length:=fun r=>by
   induction r with
   | nil=>simp [Qy]
   | cons q r ih2=>
    simp only [Qy,Bool.not_true,Bool.false_and,cond_false]
    cases q.1.toList==c.1.toList with
    | true=>simp only [cond_true,List.length_cons]; omega
    | false=>simp only [cond_false,List.length_cons]; omega
  cases !d&&gtS p.1 c.1 with
  | true=>simp only [cond_true,List.length_cons]; have:=ht r; omega
  | false=>
   simp only [cond_false]
   cases p.1.toList==c.1.toList with
   | true=>simp only [cond_true,List.length_cons]; have:=ih d; omega
   | false=>simp only [cond_false,List.length_cons]; have:=ih d; omega
theorem Au8 {q:Ar→Prop}:∀ {b:List Bq} {i:Nat} {l:List Ar},(∀ x∈l,q x)→(∀ c∈b,q (c.1,c.2.1,()))→∀ x∈Gu (fun _ c l=>A0u c l) i b l,q x
 | [],_,_,h,_=>h
 | c::b,i,l,h,hb=>Au8 (b:=b) (i:=i + 1) (fun x hx=>by
  rcases (i8 x l c.2.2.1).1 hx with q1 | q1
  ·exact h x q1.1
  ·rw [q1.2]; exact hb c List.mem_cons_self) (fun c' hc'=>hb c' (List.mem_cons_of_mem _ hc'))
def Bkr (x:Ar):Prop:=Qu x.1=true∧x.2.1.size≤100
theorem Bhz {l:List Ar} (hl:l.length≤100) (hm:∀ x∈l,Bkr x) (hs:Srt l):Av (l,())=true:=by
 unfold Av
 rw [Ap (show (l,()).1.length≤100 from hl),Bool.true_and]
 refine List.all_eq_true.2 fun i hi=>?_
 have hi:i < l.length:=by simpa [List.mem_range'] using hi
 have hx:l.getD i zP=l[i]:=by simp [hi]
 obtain ⟨h1,h2⟩:=hm l[i] (List.getElem_mem hi)
 show M4 l i=true
 unfold M4
 rw [hx,h1,Ap h2,Bool.true_and,Bool.true_and]
 cases i with
 | zero=>rfl
 | succ i=>
  have hx2:l.getD i zP=l[i]:=by simp [show i < l.length by omega]
  have:=(List.pairwise_iff_getElem.1 hs) i (i + 1) (by omega) hi (Nat.lt_succ_self i)
  show ((i + 1==0) || bl (l.getD (i + 1 - 1) zP).1 l[i + 1].1)=true
  rw [show i + 1 - 1=i from rfl,hx2,this,Bool.or_true]
theorem Bfj {s:Dh} (h:Av s=true):∀ x∈s.1,Bkr x:=fun x hx=>by
 obtain ⟨i,hi,rfl⟩:=Agy zP hx
 have:=Aa6 (C6 h).2 i hi
 unfold M4 at this
 obtain ⟨h1,h2⟩:=C6 this
 exact ⟨h1,F0 (C6 h2).1⟩
theorem Bjg {b:List Bq} (h:Br b=true):∀ c∈b,Bkr (c.1,c.2.1,()):=fun c hc=>by
 obtain ⟨i,hi,rfl⟩:=Agy zC hc
 have:=(Uo h).2 i hi
 unfold Rh at this
 obtain ⟨h1,h2⟩:=C6 this
 exact ⟨h1,F0 (C6 h2).1⟩
theorem A93:∀ {b:List Bq} {i:Nat} {l:List Ar},Srt l→Srt (Gu (fun _ c l=>A0u c l) i b l)
 | [],_,_,h=>h
 | c::b,i,l,h=>A93 (b:=b) (i:=i + 1) (Ajx _ _ h)
theorem A94 (s:Dh) (b:List Bq):Av (Rj s b).1=true:=by
 unfold Rj
 cases hv:Av s with
 | false=>rfl
 | true=>
  cases hb:Br b with
  | false=>rfl
  | true=>
   simp only [Bool.not_true,cond_false]
   by_cases q:(Ri s.1 b).length > 100
   ·rw [Ap q]; rfl
   ·rw [Bd q]
    exact Bhz (by omega) (Au8 (Bfj hv) (Bjg hb)) (A93 (A5r hv))
open Go Go.RowKit Go.Shelf Go.Lib Go.Sort Go.Proofs.YtjokieaajjmoeaaGreat.R
def Jd (x:Ar):List Value:=[.string x.1,.string x.2.1]
theorem Blg {w:World} {S:Nat→Prop} {x:Ar} {l:List Value}:prT.K w S x l↔l=Jd x:=by
 constructor
 ·rintro ⟨c1,c2,rfl,h1,c3,c4,rfl,h2,h3⟩
  have h1:c1=[.string x.1]:=h1
  have h2:c3=[.string x.2.1]:=h2
  have h3:c4=[]:=h3
  subst h1 h2 h3
  rfl
 ·rintro rfl
  exact ⟨[.string x.1],[.string x.2.1],rfl,rfl,[.string x.2.1],[],rfl,rfl,rfl⟩
theorem Bd4 {w:World} {S:Nat→Prop}:∀ {xs:List Ar} {cs:List Value},cs.length=xs.length * 2→(∀ (i:Nat) (x:Ar),xs[i]? = some x→prT.K w S x ((cs.drop (i * 2)).take 2))→cs=xs.flatMap Jd
 | [],cs,h,_=>List.length_eq_zero_iff.1 (by simpa using h)
 | x::xs,[],h1,_=>by simp at h1
 | x::xs,[_],h1,_=>by simp at h1; omega
 | x::xs,u::v::cs,h1,h2=>by
  have h0:=Blg.1 (h2 0 x rfl)
  have h0:[u,v]=Jd x:=by simpa using h0
  have ih:=Bd4 (w:=w) (S:=S) (xs:=xs) (cs:=cs) (by simp at h1; omega) (fun i y hy=>by
   have:=h2 (i + 1) y hy
   rw [show (i + 1) * 2=i * 2 + 2 by omega] at this
   simpa using this)
  show u::v::cs=Jd x++xs.flatMap Jd
  rw [← h0,← ih]
  rfl
theorem Bh0 {w:World} {S:Nat→Prop} {xs:List Ar} {cs:List Value} (h:Ik w S prT xs cs):cs=xs.flatMap Jd:=Bd4 (w:=w) (S:=S) h.1 h.2
theorem Ays:∀ xs:List Ar,(xs.flatMap Jd).length=xs.length * 2
 | []=>rfl
 | x::xs=>by
  show (Jd x++xs.flatMap Jd).length=_
  rw [Lw,Ays xs,List.length_cons]
  show 2 + xs.length * 2=_
  omega
theorem Bck:∀ {xs:List Ar} {i:Nat} {x:Ar},xs[i]? = some x→((xs.flatMap Jd).drop (i * 2)).take 2=Jd x
 | [],i,x,h=>by simp at h
 | y::xs,0,x,h=>by
  simp at h
  subst h
  rfl
 | y::xs,i + 1,x,h=>by
  simp only [List.getElem?_cons_succ] at h
  have ih:=Bck h
  rw [show (i + 1) * 2=i * 2 + 2 by omega]
  exact ih
theorem A95 {w:World} {S:Nat→Prop} {xs:List Ar}:Ik w S prT xs (xs.flatMap Jd):=⟨Ays xs,fun i x hx=>by
 have:((xs.flatMap Jd).drop (i * 2)).take 2=Jd x:=Bck hx
 exact Blg.2 this⟩
instance:Inhabited Ar:=⟨zP⟩
theorem Bjh:SWO ltK where
 irrefl x:=Aa9 x.1
 trans x y z h k:=Aba (a:=x.1) (b:=y.1) (c:=z.1) h k
 ntrans x y z h k:=by
  cases q:ltK x z with
  | false=>rfl
  | true=>
   have h:bl x.1 y.1=false:=h
   have k:bl y.1 z.1=false:=k
   have q:bl x.1 z.1=true:=q
   cases hy:bl y.1 x.1 with
   | true=>rw [Aba hy q] at k; cases k
   | false=>rw [A64 h hy] at q; rw [q] at k; cases k
theorem A5s (d:Array Ar):(flatK Jd 2 d).toList=d.toList.flatMap Jd:=by
 apply List.ext_getElem?
 intro t
 by_cases ht:t < d.size * 2
 ·have h1:(flatK Jd 2 d)[t]! = (Jd d[t / 2]!)[t % 2]! := get_flatK _ _ _ t ht
  have hi:t / 2 < d.size:=by omega
  have hx:d.toList[t / 2]? = some d[t / 2]! := by simp [hi]
  have h2:=Bck hx
  have h3:(d.toList.flatMap Jd)[t]? = (Jd d[t / 2]!)[t % 2]? := by
   rw [← h2,List.getElem?_take,if_pos (by omega),List.getElem?_drop,show t / 2 * 2 + t % 2=t by omega]
  rw [h3,Array.getElem?_toList]
  have hs:t < (flatK Jd 2 d).size:=by rw [size_flatK]; exact ht
  rw [getElem!_pos _ t hs] at h1
  rw [Array.getElem?_eq_getElem hs,h1]
  have:t % 2 < (Jd d[t / 2]!).length:=by show t % 2 < 2; omega
  rw [List.getElem?_eq_getElem this,getElem!_pos (Jd d[t / 2]!) (t % 2) this]
 ·have a1:(flatK Jd 2 d).toList[t]? = none:=List.getElem?_eq_none (by rw [Array.length_toList,size_flatK]; omega)
  have a2:(d.toList.flatMap Jd)[t]? = none:=List.getElem?_eq_none (by rw [Ays,Array.length_toList]; omega)
  rw [a1,a2]
theorem Bh1 (cur F:Array Value) (h:F.size≤cur.size):(putCells id 0 F cur).toList.take F.size=F.toList:=by
 apply List.ext_getElem?
 intro t
 rw [List.getElem?_take]
 split
 ·rename_i ht
  rw [Array.getElem?_toList,Array.getElem?_toList]
  simp [putCells,ht,show t < cur.size by omega]
 ·rename_i ht
  rw [List.getElem?_eq_none (by rw [Array.length_toList]; omega)]
theorem A96 {d':Array Ar} (h:SortedIn ltK 0 d'.size d') (hn:E6 d'.toList=true):Srt d'.toList:=by
 refine List.pairwise_iff_getElem.2 fun i j hi hj hij=>?_
 have hi':i < d'.size:=by simpa using hi
 have hj':j < d'.size:=by simpa using hj
 have h1:bl d'[j]!.1 d'[i]!.1=false:=h i j (Nat.zero_le _) hij hj'
 have e1:d'.toList[i]=d'[i]! := by simp [hi']
 have e2:d'.toList[j]=d'[j]! := by simp [hj']
 rw [e1,e2]
 cases q:bl d'[i]!.1 d'[j]!.1 with
 | true=>rfl
 | false=>
  have hk:d'[i]!.1=d'[j]!.1:=A64 q h1
  have hnd:=Adu.1 hn
  have:=(List.pairwise_iff_getElem.1 hnd) i j (by simpa using hi') (by simpa using hj') hij
  simp only [List.getElem_map] at this
  rw [e1,e2] at this
  exact absurd hk this
def Bh2 (P:Program) (fc:FuncId):Prop:=∀ (blk off c bs size:Nat) (W:World) (G:Nat→Aa),W.cell? ⟨bs,0,none⟩=some (.slice (some ⟨blk,off,none⟩) size c)→
 (∀ t,t < size→W.cell? ⟨blk,off + t * 2,none⟩=some (.string (G t)))→∀ i j:Nat,i < size→j < size→size < 4611686018427387904→
  Calls P fc #[.int .i64 i,.int .i64 j,.pointer (some ⟨bs,0,none⟩)] W fun e w'=>e=.returned (.bool (Op.bytesLess (G i).toList (G j).toList))∧∃ q,w'=W.drewN q
theorem Bh3 {d d':Array Ar} (h:PermIn 0 d.size d d'):d'.toList.Perm d.toList:=by
 obtain ⟨h1,_,h3⟩:=h
 rw [Array.extract_size] at h3
 rw [← h1,Array.extract_size] at h3
 exact h3
theorem Bcl {P:Program} {ρ:Ren} (L:LaysGg.n6 P ρ) {fc:FuncId} {BT U e:TypeId} {i ie:TypeInfo} (hi:P.info? U=some i) (hd:i.desc=.slice e) (hpk:P.packed U=false) (hie:P.info? e=some ie) (ke:Nat) (hke:∀ w,(Extern.Rtype.kind e).run P w=.ok ke w)
  (hs1:ie.size=2) (hagg:∀ w,(isAgg e).run P w=.ok true w) (eg:∀ args w,(callFunc fc args).run P w=.ok (.enter fc args) w) (f f0 f1:Nat)
  (hf : ∀ n, 2 ≤ n → P.funcs.findIdx? (·.name == "internal/reflectlite" ++ ".Swapper$" ++ toString (swapperK n ie ke)) = some f)
  (hf0 : P.funcs.findIdx? (·.name == "internal/reflectlite" ++ ".Swapper$" ++ toString (swapperK 0 ie ke)) = some f0)
  (hf1 : P.funcs.findIdx? (·.name == "internal/reflectlite" ++ ".Swapper$" ++ toString (swapperK 1 ie ke)) = some f1)
  (gS:Bool) (hx:∀ args W,(callFunc f args).run P W=((Extern.ReflectliteSwapper.swap gS args).run P W).andThen fun v w'=>.ok (.value v) w') (hclo:Bh2 P fc):A6i P (ρ.f 6) fc BT U e:=by
 intro w b v xs cs hnd hlen hb hbox ho hrep hne
 have hcs:=Bh0 hrep
 subst hcs
 have grow_keep:∀ (w1:World) (os:Array Obj) (k:Nat),k < w1.heap.size→(grow w1 os).heap[k]? = w1.heap[k]? := fun w1 os k hk=>by simp [grow,Array.getElem?_append,hk]
 have tiny : ∀ (p : Option Addr) (c f' : Nat), v = .slice p xs.length c → xs.length ≤ 1 → P.funcs.findIdx? (·.name == "internal/reflectlite" ++ ".Swapper$" ++ toString (swapperK xs.length ie ke)) = some f' →
   Calls P (ρ.f 6) #[.iface U v,.func (.func fc) #[] #[.pointer (some ⟨b,0,none⟩)]] w fun en w'=>en=.returned (.tuple #[])∧Lx v.ownBlock.toList w w'∧∃ cs',w'.ownsRow 0 e 2 v xs.length cs'∧∀ S,Ik w' S prT (Rd xs) cs':=by
  intro p c f' hv h1 hf'
  subst hv
  refine (Any.sort_Slice_tiny L U e i ie hi hd hpk hie ke hke p xs.length c h1 f' hf' (.func fc) #[] #[.pointer (some ⟨b,0,none⟩)] w).mono ?_
  rintro en w' ⟨rfl,os,rfl⟩
  refine ⟨rfl,⟨rfl,rfl,rfl,by simp [grow],fun k hk _=>grow_keep w os k hk⟩,xs.flatMap Jd,?_,?_⟩
  ·obtain ⟨h2,h3⟩:=ho
   refine ⟨h2,?_⟩
   rcases h3 with h3 | ⟨g,cap,cur,q1,q2,q3,q4⟩
   ·exact .inl h3
   ·refine .inr ⟨g,cap,cur,q1,q2,?_,q4⟩
    rw [grow_keep w os g (Array.getElem?_eq_some_iff.1 q3).1]
    exact q3
  ·intro S
   have:Rd xs=xs:=by
    match xs,h1 with
    | [],_=>rfl
    | [x],_=>rfl
   rw [this]
   exact A95
 by_cases h2:2≤xs.length
 ·obtain ⟨hl,hv⟩:=ho
  rcases hv with ⟨_,hv⟩ | ⟨g,cap,cur,hv,_,hg,hcap,hmax,hsz,htake⟩
  ·omega
  subst hv
  have hbg:b≠g:=fun q=>hne (by rw [q]; rfl)
  have hgl:g < w.heap.size:=(Array.getElem?_eq_some_iff.1 hg).1
  let d:Array Ar:=xs.toArray
  have hds:d.size=xs.length:=by simp [d]
  have hfl:(flatK Jd 2 d).toList=xs.flatMap Jd:=by rw [A5s]
  have hfs:(flatK Jd 2 d).size=xs.length * 2:=by rw [size_flatK,hds]
  have hcur:xs.length * 2≤cur.size:=by rw [hsz]; exact Nat.mul_le_mul_right 2 hcap
  have hH:HoldsK Jd 2 w g 0 d:=by
   intro j hj
   rw [hfs] at hj
   have e1:(flatK Jd 2 d).toList[j]? = cur.toList[j]? := by rw [hfl,← htake,List.getElem?_take,if_pos hj]
   rw [Array.getElem?_toList,Array.getElem?_toList] at e1
   refine ⟨?_,?_⟩
   ·unfold World.cell?
    simp only [hg,Nat.zero_add]
    rw [if_neg (by simp),← e1,Array.getElem?_eq_getElem (by rw [hfs]; exact hj)]
    rw [getElem!_pos _ j (by rw [hfs]; exact hj)]
    rfl
   ·unfold World.frozen?
    simp [hg]
  have hBs:w.cell? ⟨b,0,none⟩=some (.slice (some ⟨g,0,none⟩) d.size cap):=by
   unfold World.cell?
   simp only [hbox]
   rw [hds]
   rfl
  have hless:LessReadsK P fc #[.pointer (some ⟨b,0,none⟩)] Jd 2 ltK g 0 d.size w:=by
   intro m os dk hs i j hi hj
   have e:sortWorldK Jd 2 w g 0 m dk os=putRowK Jd 2 (grow (Sort.ahead w m) os) g 0 dk:=by
    unfold sortWorldK; rw [putRowK_grow _ _ (Sort.ahead w m) _ g 0 _ hgl]
   have hHg:HoldsK Jd 2 (grow (Sort.ahead w m) os) g 0 d:=holdsK_grow _ _ _ _ g 0 d hgl (holdsK_ahead _ _ _ _ _ _ _ hH)
   refine hclo g 0 cap b d.size _ (fun t=>dk[t]!.1) ?_ (fun t ht=>?_) i j hi hj (by omega)
   ·rw [e,cell?_putRowK_other _ _ _ g 0 dk _ (by exact hbg),cell?_grow _ _ _ (by exact hb)]; exact hBs
   ·rw [e]; exact ((holdsK_putRowK _ _ _ g 0 d dk hHg hs).cell (i:=t) (c:=0) (by omega) (by omega)).1
  rw [← hds]
  refine (Any.sort_Slice_cells_sorted L U e i ie hi hd hpk hie ke hke Jd 2 (fun _=>rfl) hs1 hagg (fun x v hv=>by simp [Jd] at hv; rcases hv with rfl | rfl<;>rfl) ltK Bjh fc #[.pointer (some ⟨b,0,none⟩)] eg g 0 cap d (by omega) (by omega) f (hf _ (by omega)) gS hx w hless hH hgl).mono ?_
  rintro en w' ⟨rfl,d',n,os,hp,hsd,rfl⟩
  have hd's:d'.size=d.size:=hp.1
  have hperm:=Bh3 hp
  have hnd':E6 d'.toList=true:=Ag4 hperm.symm (by simpa [d] using hnd)
  have hsrt:d'.toList=Rd xs:=A65 (A96 (by rw [hd's]; exact hsd) hnd') (Asp hnd) fun x=>by
   rw [Ajw,hperm.mem_iff]
  have hfs':(flatK Jd 2 d').size=xs.length * 2:=by rw [size_flatK,hd's,hds]
  have hblk:(putRowK Jd 2 (Sort.ahead w n) g 0 d').heap[g]? = some (.cells (putCells id 0 (flatK Jd 2 d') cur) e (0,0)):=by
   unfold putRowK putRow mapBlock
   show (w.heap.modify g _)[g]? = _
   rw [Array.getElem?_modify,if_pos rfl,hg]
   rfl
  have hoth:∀ k,k≠g→(putRowK Jd 2 (Sort.ahead w n) g 0 d').heap[k]? = w.heap[k]? := fun k hk=>by
   unfold putRowK putRow mapBlock
   show (w.heap.modify g _)[k]? = _
   rw [Array.getElem?_modify,if_neg (fun q=>hk q.symm)]
  have hsize:(putRowK Jd 2 (Sort.ahead w n) g 0 d').heap.size=w.heap.size:=by rw [size_putRowK]; rfl
  refine ⟨rfl,⟨rfl,rfl,rfl,by rw [show (grow (putRowK Jd 2 (Sort.ahead w n) g 0 d') os).heap=(putRowK Jd 2 (Sort.ahead w n) g 0 d').heap++os from rfl,Array.size_append,hsize]; omega,fun k hk hn=>?_⟩,(Rd xs).flatMap Jd,⟨?_,.inr ⟨g,cap,putCells id 0 (flatK Jd 2 d') cur,by rw [hds],Nat.zero_le _,?_,by rw [hds]; exact hcap,hmax,by simp [putCells,hsz],?_⟩⟩,fun S=>A95⟩
  ·rw [grow_keep _ os k (by rw [hsize]; exact hk)]
   exact hoth k (fun q=>hn (by rw [q]; simp [Value.ownBlock]))
  ·rw [Ays,Aa0,hds]
  ·rw [grow_keep _ os g (by rw [hsize]; exact hgl)]
   exact hblk
  ·rw [hds,← hsrt,← A5s,← hfs']
   exact Bh1 cur (flatK Jd 2 d') (by rw [hfs']; exact hcur)
 ·obtain ⟨hl,hv⟩:=ho
  have h1:xs.length=0∨xs.length=1:=by omega
  have ho':w.ownsRow 0 e 2 v xs.length (xs.flatMap Jd):=⟨hl,hv⟩
  have hf' : ∃ f', P.funcs.findIdx? (·.name == "internal/reflectlite" ++ ".Swapper$" ++ toString (swapperK xs.length ie ke)) = some f' := by
   rcases h1 with h1 | h1<;>rw [h1]
   ·exact ⟨f0,hf0⟩
   ·exact ⟨f1,hf1⟩
  obtain ⟨f',hf'⟩:=hf'
  rcases hv with ⟨hv,h0⟩ | ⟨g,cap,cur,hv,_⟩
  ·exact tiny none 0 f' (by rw [hv,h0]) (by omega) hf'
  ·exact tiny (some ⟨g,0,none⟩) cap f' hv (by omega) hf'
def Bks (r:Rt):Prop:=(0≤r.1∧r.1≤1000000000)∧(0≤r.2.1∧r.2.1≤1)∧(1≤r.2.2.1∧r.2.2.1≤999999000)∧(0≤r.2.2.2.1∧r.2.2.2.1≤60000)
theorem A5t {x:Aa} {w:Int} {p:Pg} (h:Dq x w=(p,true)):1≤p.2.1∧p.2.1≤60000:=by
 obtain ⟨_,_,_,h4⟩:=Ya h
 unfold Mq at h4
 obtain ⟨_,h4⟩:=C6 h4
 obtain ⟨_,h4⟩:=C6 h4
 exact Iu (C6 h4).1
theorem Au9 {s:Aa} {w a:Int} {best:Rt} (h:Bks best):Bks (Hv s w a best):=by
 unfold Hv
 cases hc:(Dq s w).2&&((Dq s w).1.1==4)&&decide ((Dq s w).1.2.2.2.1.size=5)&&((Dq s w).1.2.2.1 % 2==a)&&P3 (Nk (Dq s w).1)&&decide ((Dq s w).1.2.2.1 > best.1) with
 | false=>exact h
 | true=>
  simp only [Bool.and_eq_true] at hc
  obtain ⟨⟨⟨⟨⟨h1,_⟩,_⟩,_⟩,h5⟩,_⟩:=hc
  have hp:Dq s w=((Dq s w).1,true):=by rw [← h1]
  obtain ⟨_,hn,_⟩:=Ayq hp
  have hl:=A5t hp
  obtain ⟨r1,r2⟩:=C6 h5
  have r1:=Iu r1
  have r2:=Iu r2
  simp only [cond_true]
  exact ⟨⟨by show 0≤(Dq s w).1.2.2.1; omega,hn.2⟩,r1,r2,⟨by show 0≤(Dq s w).1.2.1; omega,hl.2⟩⟩
theorem Ava {d:Dk} {w:Int} (h:B1 d=true) (hw:Fg w 1 8=true):Bks (Bg d w):=by
 unfold Bg
 rw [h,hw]
 exact Au9 (Au9 ⟨⟨by decide,by decide⟩,⟨by decide,by decide⟩,⟨by decide,by decide⟩,by decide,by decide⟩)
theorem A5u (w first:Int):∀ (l:List Aa) (i:Int) (st:ScT),0≤i→(0≤st.2.2.2.2.1∧st.2.2.2.2.1≤i)→(0≤st.2.2.2.2.2∧st.2.2.2.2.2≤60000)→
  (0≤(P8 w first l i st).2.1∧(P8 w first l i st).2.1≤i + l.length)∧(0≤(P8 w first l i st).2.2.1∧(P8 w first l i st).2.2.1≤60000)
 | [],i,st,h0,h1,h2=>⟨⟨h1.1,by show st.2.2.2.2.1≤i + ((0:Nat):Int); omega⟩,h2⟩
 | x::l,i,st,h0,h1,h2=>by
  unfold P8
  cases hc:Aso w first i st x with
  | false=>exact ⟨⟨h1.1,by show st.2.2.2.2.1≤i + ((l.length + 1:Nat):Int); omega⟩,h2⟩
  | true=>
   simp only [cond_true]
   unfold Aso at hc
   have hp:Dq x w=((Dq x w).1,true):=by rw [← (C6 hc).1]
   have hl:=A5t hp
   have:=A5u w first l (i + 1) (N4 i (Dq x w).1 st) (by omega) (by
    unfold N4
    cases (Dq x w).1.1==1<;>cases (Dq x w).1.1==2<;>simp only [cond_true,cond_false]<;>omega) (by
    unfold N4
    cases (Dq x w).1.1==1<;>cases (Dq x w).1.1==2<;>simp only [cond_true,cond_false]<;>omega)
   refine ⟨⟨this.1.1,?_⟩,this.2⟩
   have h3:=this.1.2
   simp only [List.length_cons]
   omega
theorem A97 (d:Dk) (f n first life w:Int) (hn:0≤n) (hl:0≤life∧life≤60000):(0≤(i7 d f n first life w).2.1∧(i7 d f n first life w).2.1≤n)∧(0≤(i7 d f n first life w).2.2.1∧(i7 d f n first life w).2.2.1≤60000):=by
 unfold i7
 cases hc:B1 d&&(Fg w 1 8&&(decide (0≤f)&&(decide (0≤n)&&(decide (f≤(d.1.length:Int))&&decide (n≤(d.1.length:Int) - f))))) with
 | false=>exact ⟨⟨Int.le_refl 0,hn⟩,Int.le_refl 0,show (0:Int)≤60000 by omega⟩
 | true=>
  simp only [cond_true]
  have:=A5u w first (seen d f 0 n.toNat) 0 (0,life,z0,[],0,life) (by omega) ⟨by show (0:Int)≤0; omega,by show (0:Int)≤0; omega⟩ hl
  rw [A90] at this
  exact ⟨⟨this.1.1,by have:=this.1.2; omega⟩,this.2⟩
def Tl:List Aa→Dh→Option Dh
 | [],s=>some s
 | e::r,s=>bif (Nn e).2 then (bif (Rj s (Nn e).1).2==0 then Tl r (Rj s (Nn e).1).1 else none) else none
theorem Xk:∀ {l:List Aa} {s st:Dh},Av s=true→Tl l s=some st→Av st=true
 | [],s,st,h,e=>by cases e; exact h
 | x::r,s,st,h,e=>by
  unfold Tl at e
  cases h1:(Nn x).2 with
  | false=>rw [h1] at e; cases e
  | true=>
   rw [h1] at e
   simp only [cond_true] at e
   cases h2:(Rj s (Nn x).1).2==0 with
   | false=>rw [h2] at e; cases e
   | true=>
    rw [h2] at e
    exact Xk (A94 s (Nn x).1) e
def Ag5 (d:Dk) (w:Int) (r:Rt) (x:Scd) (st:Dh):Don:=
 bif decide (x.2.2.1 + 1 > 60000) then A9z 3 else bif decide (Yb st w > Au d.1.length - 1) then A9z 4 else
 bif decide (x.2.1 < Au d.1.length) then (0,(w,nI d.1.length,x.2.2.1 + 1,r,x.2.1 + 1,0,st,()),[Asn (Ck r.2.1 d.1.length + x.2.1) (E7 (3,x.2.2.1 + 1,r.2.2.1 + x.2.1,z0,()) w),Bdz],())
 else Au6 (w,nI d.1.length,x.2.2.1 + 1,r,x.2.1,0,st,())
def Kr (d:Dk) (w:Int):Scd:=i7 d (Ck (Bg d w).2.1 d.1.length) (Au d.1.length) (Bg d w).2.2.1 (Bg d w).2.2.2.1 w
def Apb (d:Dk) (w:Int):Don:=
 bif !B1 d then A9z 1 else bif !Fg w 1 8 then A9z 1 else
 match Tl (Kr d w).1 zSs with
 | none=>A9z 2
 | some st=>Ag5 d w (Bg d w) (Kr d w) st
theorem Bd5 {d:Dk} {w:Int} {r:Rt} {x:Scd} {st:Dh} (h:x.2.2.1 + 1 > 60000):Ag5 d w r x st=A9z 3:=by unfold Ag5; rw [Ap h]; rfl
theorem Bd6 {d:Dk} {w:Int} {r:Rt} {x:Scd} {st:Dh} (h:¬ x.2.2.1 + 1 > 60000) (h2:Yb st w > Au d.1.length - 1):Ag5 d w r x st=A9z 4:=by unfold Ag5; rw [Bd h,Ap h2]; rfl
theorem Bd7 {d:Dk} {w:Int} {r:Rt} {x:Scd} {st:Dh} (h:¬ x.2.2.1 + 1 > 60000) (h2:¬ Yb st w > Au d.1.length - 1) (h3:x.2.1 < Au d.1.length):Ag5 d w r x st=(0,(w,nI d.1.length,x.2.2.1 + 1,r,x.2.1 + 1,0,st,()),[Asn (Ck r.2.1 d.1.length + x.2.1) (E7 (3,x.2.2.1 + 1,r.2.2.1 + x.2.1,z0,()) w),Bdz],()):=by unfold Ag5; rw [Bd h,Bd h2,Ap h3]; rfl
theorem Bd8 {d:Dk} {w:Int} {r:Rt} {x:Scd} {st:Dh} (h:¬ x.2.2.1 + 1 > 60000) (h2:¬ Yb st w > Au d.1.length - 1) (h3:¬ x.2.1 < Au d.1.length):Ag5 d w r x st=Au6 (w,nI d.1.length,x.2.2.1 + 1,r,x.2.1,0,st,()):=by unfold Ag5; rw [Bd h,Bd h2,Bd h3]; rfl
theorem A98 {s:Ls} (h:Av s.2.2.2.2.2.2.1=true):Av (Au6 s).2.1.2.2.2.2.2.2.1=true:=by
 unfold Au6 Apa
 cases decide (s.2.2.2.1.1 + 1 > 1000000000) with
 | true=>rfl
 | false=>
  cases decide (s.2.2.2.1.2.2.1 + Au s.2.1 > 999999000) with
  | true=>rfl
  | false=>exact h
theorem A99 {d:Dk} {w:Int} {r:Rt} {x:Scd} {st:Dh} (h:Av st=true):Av (Ag5 d w r x st).2.1.2.2.2.2.2.2.1=true:=by
 unfold Ag5
 cases decide (x.2.2.1 + 1 > 60000) with
 | true=>rfl
 | false=>
  cases decide (Yb st w > Au d.1.length - 1) with
  | true=>rfl
  | false=>
   simp only [cond_false]
   cases decide (x.2.1 < Au d.1.length) with
   | true=>exact h
   | false=>exact A98 h
theorem A0y (d:Dk) (w:Int):Av (Apb d w).2.1.2.2.2.2.2.2.1=true:=by
 unfold Apb
 cases B1 d with
 | false=>rfl
 | true=>
  cases Fg w 1 8 with
  | false=>rfl
  | true=>
   simp only [Bool.not_true,cond_false]
   cases ho:Tl (Kr d w).1 zSs with
   | none=>rfl
   | some st=>exact A99 (Xk rfl ho)
def Asq (w:S4):Dh×Int:=bif !In w then (zSs,1) else ((Apb (w.2.1.1,[],()) w.1).2.1.2.2.2.2.2.2.1,(Apb (w.2.1.1,[],()) w.1).1)
theorem Baa (w:S4):Av (Asq w).1=true:=by
 unfold Asq
 cases In w with
 | false=>rfl
 | true=>exact A0y _ _
theorem Asr {E:Type} {xs:List Aa} {g:Nat→Int→List Ar→Option E} {ok:List Ar→E} {bad:E}
  (hs:∀ m (i:Nat) r,i < xs.length→g (m + 1) i r=bif !(Nn (xs.getD i z0)).2 then some bad else bif (Rj (r,()) (Nn (xs.getD i z0)).1).2 != 0 then some bad else g m ((i + 1:Nat):Int) (Rj (r,()) (Nn (xs.getD i z0)).1).1.1)
  (he:∀ m r,g (m + 1) (xs.length:Int) r=some (ok r)):
  ∀ (m i:Nat) (r:List Ar),i≤xs.length→xs.length - i < m→g m i r=some (match Tl (xs.drop i) (r,()) with
   | some st=>ok st.1
   | none=>bad)
 | 0,i,r,_,hm=>by omega
 | m + 1,i,r,hl,hm=>by
  by_cases h:i < xs.length
  ·rw [hs m i r h,L1 xs i z0 h,Asr hs he m (i + 1) _ (by omega) (by omega)]
   simp only [Tl]
   cases (Nn (xs.getD i z0)).2 with
   | false=>rfl
   | true=>
    simp only [Bool.not_true,cond_false,cond_true]
    by_cases hc:(Rj (r,()) (Nn (xs.getD i z0)).1).2=0
    ·rw [hc]; rfl
    ·rw [show ((Rj (r,()) (Nn (xs.getD i z0)).1).2 != 0)=true from bne_iff_ne.2 hc,show ((Rj (r,()) (Nn (xs.getD i z0)).1).2==0)=false from beq_eq_false_iff_ne.2 hc]
     rfl
  ·have:i=xs.length:=by omega
   subst this
   rw [he,List.drop_length]
   rfl
def Bd9 (es:List Aa):Dh×Bool:=match Tl es zSs with
 | some st=>(st,true)
 | none=>(zSs,false)
end Go.Proofs.YtjokieaajjmoeaaGreat.V
namespace Go.Proofs
open Go.Shelf
def Tryz.laysGg6_ren:Go.Shelf.Ren:=⟨fun | 6=>143 | 10=>168 | 11=>169 | 12=>170 | 13=>171 | 14=>172 | 24=>187 | 25=>188 | 26=>189 | 27=>190 | 28=>191 | 29=>192 | 30=>193 | 31=>194 | 32=>195 | 33=>196 | 34=>202 | 35=>203 | 36=>204 | 37=>205 | 38=>206 | 39=>208 | n=>n,fun | 20=>20 | 26=>182 | 35=>205 | 0=>0 | 37=>207 | 3=>3 | 41=>201 | 44=>213 | 49=>223 | 51=>199 | 4=>4 | 54=>227 | 53=>226 | 58=>231 | 5=>5 | 9=>9 | 60=>238 | 64=>242 | 66=>245 | 67=>246 | 17=>17 | 32=>202 | 33=>203 | 82=>259 | 12=>12 | 75=>253 | 76=>254 | 77=>255 | 78=>218 | 79=>256 | 80=>257 | n=>n,fun | n=>n⟩
theorem Tryz.laysGg6:Go.Proofs.LaysGg.n6 Tryz.prog Tryz.laysGg6_ren:={
 mixed:=by kernel_rfl
 f6:=Tryz.func143.trans (congrArg some (by kernel_rfl))
 f10:=Tryz.func168.trans (congrArg some (by kernel_rfl))
 f11:=Tryz.func169.trans (congrArg some (by kernel_rfl))
 f12:=Tryz.func170.trans (congrArg some (by kernel_rfl))
 f13:=Tryz.func171.trans (congrArg some (by kernel_rfl))
 f14:=Tryz.func172.trans (congrArg some (by kernel_rfl))
 f24:=Tryz.func187.trans (congrArg some (by kernel_rfl))
 f25:=Tryz.func188.trans (congrArg some (by kernel_rfl))
 f26:=Tryz.func189.trans (congrArg some (by kernel_rfl))
 f27:=Tryz.func190.trans (congrArg some (by kernel_rfl))
 f28:=Tryz.func191.trans (congrArg some (by kernel_rfl))
 f29:=Tryz.func192.trans (congrArg some (by kernel_rfl))
 f30:=Tryz.func193.trans (congrArg some (by kernel_rfl))
 f31:=Tryz.func194.trans (congrArg some (by kernel_rfl))
 f32:=Tryz.func195.trans (congrArg some (by kernel_rfl))
 f33:=Tryz.func196.trans (congrArg some (by kernel_rfl))
 f34:=Tryz.func202.trans (congrArg some (by kernel_rfl))
 f35:=Tryz.func203.trans (congrArg some (by kernel_rfl))
 f36:=Tryz.func204.trans (congrArg some (by kernel_rfl))
 f37:=Tryz.func205.trans (congrArg some (by kernel_rfl))
 f38:=Tryz.func206.trans (congrArg some (by kernel_rfl))
 f39:=Tryz.func208.trans (congrArg some (by kernel_rfl))
 t0:=Tryz.underlying0
 a0:=Tryz.isAgg0
 z0:=Tryz.sizeOf0
 v0:=Tryz.zeroValue0
 i0:=by kernel_rfl
 t3:=Tryz.underlying3
 a3:=Tryz.isAgg3
 z3:=Tryz.sizeOf3
 v3:=Tryz.zeroValue3
 i3:=by kernel_rfl
 t4:=Tryz.underlying4
 a4:=Tryz.isAgg4
 z4:=Tryz.sizeOf4
 v4:=Tryz.zeroValue4
 i4:=by kernel_rfl
 t5:=Tryz.underlying5
 a5:=Tryz.isAgg5
 z5:=Tryz.sizeOf5
 v5:=Tryz.zeroValue5
 i5:=by kernel_rfl
 t9:=Tryz.underlying9
 a9:=Tryz.isAgg9
 z9:=Tryz.sizeOf9
 v9:=Tryz.zeroValue9
 i9:=by kernel_rfl
 t12:=Tryz.underlying12
 a12:=Tryz.isAgg12
 z12:=Tryz.sizeOf12
 v12:=Tryz.zeroValue12
 i12:=by kernel_rfl
 t17:=Tryz.underlying17
 a17:=Tryz.isAgg17
 z17:=Tryz.sizeOf17
 v17:=Tryz.zeroValue17
 i17:=by kernel_rfl
 t20:=Tryz.underlying20
 a20:=Tryz.isAgg20
 z20:=Tryz.sizeOf20
 v20:=Tryz.zeroValue20
 i20:=by kernel_rfl
 t26:=Tryz.underlying182
 a26:=Tryz.isAgg182
 z26:=Tryz.sizeOf182
 v26:=Tryz.zeroValue182
 i26:=by kernel_rfl
 t32:=Tryz.underlying202
 a32:=Tryz.isAgg202
 z32:=Tryz.sizeOf202
 v32:=Tryz.zeroValue202
 i32:=by kernel_rfl
 t33:=Tryz.underlying203
 a33:=Tryz.isAgg203
 z33:=Tryz.sizeOf203
 v33:=Tryz.zeroValue203
 i33:=by kernel_rfl
 t35:=Tryz.underlying205
 a35:=Tryz.isAgg205
 z35:=Tryz.sizeOf205
 v35:=Tryz.zeroValue205
 i35:=by kernel_rfl
 t37:=Tryz.underlying207
 a37:=Tryz.isAgg207
 z37:=Tryz.sizeOf207
 v37:=Tryz.zeroValue207
 i37:=by kernel_rfl
 t41:=Tryz.underlying201
 a41:=Tryz.isAgg201
 z41:=Tryz.sizeOf201
 v41:=Tryz.zeroValue201
 i41:=by kernel_rfl
 t44:=Tryz.underlying213
 a44:=Tryz.isAgg213
 z44:=Tryz.sizeOf213
 v44:=Tryz.zeroValue213
 i44:=by kernel_rfl
 t49:=Tryz.underlying223
 a49:=Tryz.isAgg223
 z49:=Tryz.sizeOf223
 v49:=Tryz.zeroValue223
 i49:=by kernel_rfl
 t51:=Tryz.underlying199
 a51:=Tryz.isAgg199
 z51:=Tryz.sizeOf199
 v51:=Tryz.zeroValue199
 i51:=by kernel_rfl
 t53:=Tryz.underlying226
 a53:=Tryz.isAgg226
 z53:=Tryz.sizeOf226
 v53:=Tryz.zeroValue226
 i53:=by kernel_rfl
 t54:=Tryz.underlying227
 a54:=Tryz.isAgg227
 z54:=Tryz.sizeOf227
 v54:=Tryz.zeroValue227
 i54:=by kernel_rfl
 t58:=Tryz.underlying231
 a58:=Tryz.isAgg231
 z58:=Tryz.sizeOf231
 v58:=Tryz.zeroValue231
 i58:=by kernel_rfl
 t60:=Tryz.underlying238
 a60:=Tryz.isAgg238
 z60:=Tryz.sizeOf238
 v60:=Tryz.zeroValue238
 i60:=by kernel_rfl
 t64:=Tryz.underlying242
 a64:=Tryz.isAgg242
 z64:=Tryz.sizeOf242
 v64:=Tryz.zeroValue242
 i64:=by kernel_rfl
 t66:=Tryz.underlying245
 a66:=Tryz.isAgg245
 z66:=Tryz.sizeOf245
 v66:=Tryz.zeroValue245
 i66:=by kernel_rfl
 t67:=Tryz.underlying246
 a67:=Tryz.isAgg246
 z67:=Tryz.sizeOf246
 v67:=Tryz.zeroValue246
 i67:=by kernel_rfl
 t75:=Tryz.underlying253
 a75:=Tryz.isAgg253
 z75:=Tryz.sizeOf253
 v75:=Tryz.zeroValue253
 i75:=by kernel_rfl
 t76:=Tryz.underlying254
 a76:=Tryz.isAgg254
 z76:=Tryz.sizeOf254
 v76:=Tryz.zeroValue254
 i76:=by kernel_rfl
 t77:=Tryz.underlying255
 a77:=Tryz.isAgg255
 z77:=Tryz.sizeOf255
 v77:=Tryz.zeroValue255
 i77:=by kernel_rfl
 t78:=Tryz.underlying218
 a78:=Tryz.isAgg218
 z78:=Tryz.sizeOf218
 v78:=Tryz.zeroValue218
 i78:=by kernel_rfl
 t79:=Tryz.underlying256
 a79:=Tryz.isAgg256
 z79:=Tryz.sizeOf256
 v79:=Tryz.zeroValue256
 i79:=by kernel_rfl
 t80:=Tryz.underlying257
 a80:=Tryz.isAgg257
 z80:=Tryz.sizeOf257
 v80:=Tryz.zeroValue257
 i80:=by kernel_rfl
 t82:=Tryz.underlying259
 a82:=Tryz.isAgg259
 z82:=Tryz.sizeOf259
 v82:=Tryz.zeroValue259
 i82:=by kernel_rfl }
namespace YtjokieaajjmoeaaGreat.V
open Go Go.RowKit Go.Shelf Go.Lib Go.Sort Go.Proofs.YtjokieaajjmoeaaGreat.R
set_option maxHeartbeats 2000000 in
theorem Bfk:Bh2 Tryz.prog 144:=by
 intro blk off c bs size W G hs hc i j hi hj _hsz
 have ci:=hc i hi
 have cj:=hc j hj
 go_enter Tryz.func144,Tryz.ntmps144
 go_wp2
 go_quiet (fail)
 go_wp2
 go_ret
 exact ⟨rfl,nq,rfl⟩
def svT:TypeInfo:=(Tryz.prog.info? 37).get (by kernel_rfl)
def svE:TypeInfo:=(Tryz.prog.info? 136).get (by kernel_rfl)
theorem svK (n:Nat) (h2:2≤n):swapperK n svE 25=9:=by
 have a:svE.hasPointers=true:=by kernel_rfl
 have b:(svE.bytes==8)=false:=by kernel_rfl
 have c:(n==0)=false:=by simp; omega
 have d:(n==1)=false:=by simp; omega
 simp [swapperK,a,b,c,d]
end YtjokieaajjmoeaaGreat.V
namespace YtjokieaajjmoeaaGreat.R
open Go Go.RowKit Go.Shelf Go.Lib Go.Sort Go.Proofs.YtjokieaajjmoeaaGreat.V
theorem Bfl:A6i Tryz.prog 143 144 39 37 136:=
 Bcl (ρ:=Tryz.laysGg6_ren) Tryz.laysGg6 (i:=svT) (ie:=svE) (by kernel_rfl) (by kernel_rfl) (by kernel_rfl) (by kernel_rfl) 25 (fun _=>by kernel_rfl) (by kernel_rfl) (fun _=>by kernel_rfl)
  (enters_of Tryz.func144 (by kernel_rfl) rfl) 186 178 179 (fun n h2=>by rw [svK n h2]; kernel_rfl) (by kernel_rfl) (by kernel_rfl) false
  (fun args W=>run_callFunc_extern Tryz.func186 (by kernel_rfl) (by kernel_rfl) (by kernel_rfl) (e:=Extern.ReflectliteSwapper.swap false) (by kernel_rfl) args W) Bfk
end YtjokieaajjmoeaaGreat.R
end Go.Proofs
end
