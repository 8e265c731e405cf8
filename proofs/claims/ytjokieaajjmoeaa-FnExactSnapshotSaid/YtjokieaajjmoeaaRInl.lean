/- Calls that are entered in place, function values, and the two library functions that a builder needs. No condition. -/
import Derived.Test.YtjokieaajjmoeaaRLast
noncomputable section
set_option linter.unusedVariables false
set_option linter.unusedSimpArgs false
namespace Go.Proofs.Ytjokieaajjmoeaa.R
open Go Go.RowKit
section
def Fr (o:Oper):Option (FuncId×List Operand):=match o.op with
 | .call c=>match c.callee with
  | .value (.func f)=>some (f,c.args.toList)
  | _=>none
 | _=>none
def Ri (s:St) (o:Oper):Option (FuncId×List Operand×List Lf):=match o.op with
 | .call c=>match c.callee with
  | .value (.tmp t)=>match s.cell t with
   | .fn f ls=>some (f,c.args.toList,ls)
   | _=>none
  | _=>none
 | _=>none
def Jz (s:St):List Operand→Option (List Vl)
 | []=>some []
 | x::r=>(s.value x).bind fun v=>(Jz s r).bind fun vs=>some (v::vs)
def Agg:List Lf→List Vl
 | []=>[]
 | l::r=>.lf l::Agg r
structure Tb where
 sd:FuncId→Option SD
 inl:FuncId→Option Func
 cc:Option (FuncId×TypeId)
 st:Option (FuncId×TypeId×TypeId)
 srt:Option (FuncId×FuncId×TypeId×TypeId×TypeId)
 nest:Nm
def Tb.of (sd:FuncId→Option SD):Tb:=⟨sd,fun _=>none,none,none,none,.off⟩
def Tb.dr (T:Tb):Tb:=⟨T.sd,T.inl,T.cc,T.st,T.srt,T.nest.less⟩
def Ei (xs:List Int):Bool:=xs.all fun x=>decide (0≤x)&&decide (x < 256)
def Ajc (P:Program) (T:TypeId) (f:FuncId):Prop:=∀ (w:World) (b:Nat) (v:Value),
 (w.heap[b]? = some (.cells #[.pointer none,v] T (0,0))→Calls P f #[.pointer (some ⟨b,0,none⟩)] w fun e w'=>e=.returned (.tuple #[])∧Fm [b] w w'∧w'.heap[b]? = some (.cells #[.pointer (some ⟨b,0,none⟩),v] T (0,0)))∧
 (w.heap[b]? = some (.cells #[.pointer (some ⟨b,0,none⟩),v] T (0,0))→Calls P f #[.pointer (some ⟨b,0,none⟩)] w fun e w'=>e=.returned (.tuple #[])∧Fm [] w w')
def Ajd (P:Program) (T e:TypeId) (f:FuncId):Prop:=∀ (w:World) (b:Nat) (p v:Value) (xs:List Int) (cs:List Value),
 Ei xs=true→w.heap[b]? = some (.cells #[p,v] T (0,0))→w.ownsRow 0 e 1 v xs.length cs→Dd w (fun _=>True) (.int .u8) xs cs→v.ownBlock≠some b→
  Calls P f #[.pointer (some ⟨b,0,none⟩)] w fun e w'=>e=.returned (.string (strOfNums xs))∧Fm v.ownBlock.toList w w'
abbrev prT:Ty:=.pair .str (.pair .str .unit)
abbrev prD:=Aj×Aj×Unit
def ltK (a b:prD):Bool:=Op.bytesLess a.1.toList b.1.toList
def Wy (p:prD):List prD→List prD
 | []=>[p]
 | q::r=>bif ltK q p then q::Wy p r else p::q::r
def K0 (l:List prD):List prD:=l.foldr Wy []
def D0:List prD→Bool
 | []=>true
 | p::r=>!(r.any fun q=>q.1.toList==p.1.toList)&&D0 r
def Aen (P:Program) (fs fc:FuncId) (BT U e:TypeId):Prop:=∀ (w:World) (b:Nat) (v:Value) (xs:List prD) (cs:List Value),
 D0 xs=true→xs.length≤1000→b < w.heap.size→w.heap[b]? = some (.cells #[v] BT (0,0))→w.ownsRow 0 e 2 v xs.length cs→Dd w (fun _=>True) prT xs cs→v.ownBlock≠some b→
  Calls P fs #[.iface U v,.func (.func fc) #[] #[.pointer (some ⟨b,0,none⟩)]] w fun en w'=>en=.returned (.tuple #[])∧Fm v.ownBlock.toList w w'∧∃ cs',w'.ownsRow 0 e 2 v xs.length cs'∧∀ S,Dd w' S prT (K0 xs) cs'
structure Bd (P:Program) (T:Tb):Prop where
 sd:∀ f sd,T.sd f=some sd→Es P f∧Tx P f sd.sg sd.den
 inl : ∀ f fn, T.inl f = some fn → P.funcs[f]? = some fn ∧ (fn.name == "runtime.NumGoroutine") = false ∧ fn.body.isNone = false
 cc:∀ f BT,T.cc=some (f,BT)→Es P f∧Ajc P BT f
 st:∀ f BT e,T.st=some (f,BT,e)→Es P f∧Ajd P BT e f
 srt:∀ fs fc BT U e,T.srt=some (fs,fc,BT,U,e)→Es P fs∧Aen P fs fc BT U e
theorem Bd.dr {P:Program} {T:Tb} (h:Bd P T):Bd P T.dr:=⟨h.sd,h.inl,h.cc,h.st,h.srt⟩
theorem Bd.of {P:Program} {sd:FuncId→Option SD} (h:∀ f d,sd f=some d→Es P f∧Tx P f d.sg d.den):Bd P (Tb.of sd):=
 ⟨h,fun _ _ q=>(by cases q),fun _ _ q=>(by cases q),fun _ _ _ q=>(by cases q),fun _ _ _ _ _ q=>(by cases q)⟩
def Ah0 (T:Tb) (f:FuncId) (BT:TypeId):Bool:=match T.cc with
 | some (f',B')=>Nat.beq f' f&&Nat.beq B' BT
 | none=>false
def Air (T:Tb) (f:FuncId) (BT:TypeId):Option TypeId:=match T.st with
 | some (f',B',e)=>bif Nat.beq f' f&&Nat.beq B' BT then some e else none
 | none=>none
def ccD (s:St) (id:Nat) (BT:TypeId) (l0 l1:Lf):Cd:=match l0 with
 | .c (.pointer none)=>some ([],.tp [],s.setRes id (.box BT [.ptr id 0,l1]))
 | .ptr j 0=>if j=id then some ([],.tp [],s) else none
 | .sp j=>if j=id then some ([],.tp [],s.setRes id (.box BT [.ptr id 0,l1])) else none
 | _=>none
def Aeo (T:Tb) (s:St) (f:FuncId) (vs:List Vl):Cd:=match vs with
 | [.lf (.ptr id 0)]=>match s.res id with
  | .box BT [l0,l1]=>bif Ah0 T f BT then ccD s id BT l0 l1 else (match Air T f BT with
   | some e=>(Ku s ⟨e,.int .u8,[],0⟩ l1).bind fun p=>some ([Ei p.2],.vl (.lf (.c (.string (strOfNums p.2)))),Bv s p.1)
   | none=>none)
  | _=>none
 | _=>none
def h8 (s:St) (vs:List Vl):St:=⟨fun i=>match vs[i]? with | some v=>.vl v | none=>.dead,s.res⟩
def Aep (P:Program) (T:Tb) (s:St) (nid:Nat) (o:Oper):Cd:=match Fr o with
 | some (f,xs)=>match Jz s xs with
  | some vs=>Aeo T s f vs
  | none=>none
 | none=>Gf P s nid o
def St.put (n:Nat) (s:St) (d:Option Tmp) (av:AV):St:=match d with
 | some d=>if Nat.blt d n then s.setCell d av else s
 | none=>s
def Ahd (s:St) (nid:Nat):Nat:=match s.res nid with
 | .unborn=>nid
 | _=>nid + 1
def Agh (P:Program) (T:Tb) (n:Nat):List Oper→Nat→St→Option (List Bool×St)
 | [],_,s=>some ([],s)
 | o::r,nid,s=>match o.guard with
  | some _=>none
  | none=>match Aep P T s nid o with
   | some (cs,av,s')=>match Agh P T n r (Ahd s' nid) (s'.put n o.dst av) with
    | some (cs',s'')=>some (cs++cs',s'')
    | none=>none
   | none=>none
def Yr (P:Program) (T:Tb) (n:Nat):Code→Nat→St→Option (List Bool×Bool×St)
 | .skip,_,s=>some ([],false,s)
 | .region _ ops draw,nid,s=>bif draw then none else match Agh P T n ops.toList nid s with
  | some (cs,s')=>some (cs,false,s')
  | none=>none
 | .seq a b,nid,s=>match Yr P T n a nid s with
  | some (cs,true,s')=>some (cs,true,s')
  | some (cs,false,s')=>match Yr P T n b (Ahd s' nid) s' with
   | some (cs',r,s'')=>some (cs++cs',r,s'')
   | none=>none
  | none=>none
 | .cond c a b,nid,s=>match s.conc c with
  | some (.bool true)=>Yr P T n a nid s
  | some (.bool false)=>Yr P T n b nid s
  | _=>none
 | .ret,_,s=>some ([],true,s)
 | _,_,_=>none
def G1 (P:Program) (s:St):List ResultVar→Option (List Vl)
 | []=>some []
 | .tmp t::r=>match s.cell t with
  | .vl v=>(G1 P s r).map (v::·)
  | _=>none
 | .cell a t::r=>match V9 P s t (.tmp a) with
  | some v=>(G1 P s r).map (v::·)
  | none=>none
def Agi (P:Program) (T:Tb) (fn:Func) (vs:List Vl) (s:St) (nid:Nat):Cd:=match fn.body with
 | none=>none
 | some c=>bif Nat.ble vs.length fn.ntmps then (match Yr P T fn.ntmps c nid (h8 s vs) with
  | some (cs,_,s')=>match G1 P s' fn.results.toList with
   | some vs'=>some (cs,Aae vs',⟨s.cell,s'.res⟩)
   | none=>none
  | none=>none) else none
def Iu (P:Program) (T:Tb) (s:St) (nid:Nat) (o:Oper):Option (AV×St):=match Fr o with
 | some (f,xs)=>match Jz s xs with
  | some vs=>match T.sd f with
   | some sd=>P5 sd.sg sd.den s nid vs
   | none=>match T.inl f with
    | some fn=>En (Agi P T fn vs s nid)
    | none=>En (Aeo T s f vs)
  | none=>none
 | none=>match Ri s o with
  | some (f,xs,ls)=>match Jz s xs with
   | some vs=>match T.sd f with
    | some sd=>P5 sd.sg sd.den s nid (vs++Agg ls)
    | none=>none
   | none=>none
  | none=>En (It T.nest P s nid o)
section
variable {P:Program} {n B:Nat} {Iq:List Nat} {s:St} {g:Gh} {a:Act} {w:World}
theorem Oz (h:As n B Iq s g a w):∀ {xs:List Operand} {vs:List Vl},Jz s xs=some vs→Sk s g w vs (xs.map a.eval)
 | [],vs,e=>by cases e; trivial
 | x::r,vs,e=>by
  simp only [Jz] at e
  obtain ⟨v,e1,e⟩:=Al e
  obtain ⟨vs',e2,e⟩:=Al e
  cases e
  exact ⟨H9 h e1,Oz h e2⟩
theorem Rj {f:FuncId} (hc:Es P f) (args:Array Value):(callFunc f args).run P w=.ok (.enter f args) w:=by
 obtain ⟨fn,h1,h2,h3⟩:=hc
 simp only [callFunc,Sem.run_bind,run_program,Result.andThen_ok,h1,h2,h3,Bool.false_eq_true,if_false]
 rfl
def O0 (P:Program) (f:FuncId) (args:Array Value) (n B:Nat) (Iq:List Nat) (s:St) (g:Gh) (a:Act) (w:World) (av:AV) (s':St):Prop:=
 Calls P f args w fun e w'=>∃ v g',e=.returned v∧Go B Iq s g w s' g' w'∧As n B Iq s' g' a w'∧Jn s' g' w' av v
theorem Fm.toKp {B:Nat} {Iq l:List Nat} {w w':World} (h:Fm l w w') (hB:B≤w.heap.size) (hl:∀ b∈l,b∈Iq∨B≤b):Kp B Iq w w':=
 ⟨h.os,h.tape,h.output,h.size,fun k hk hn=>h.block k (by omega) fun q=>by
  rcases hl k q with q | q
  ·exact hn q
  ·omega⟩
theorem Gp (s:St) (o:Option Nat) (j:Nat):(Bv s o).res j=if o=some j then .dead else s.res j:=by
 cases o with
 | none=>simp [Bv]
 | some i=>
  simp only [Bv,St.setRes,Du,Option.some.injEq]
  by_cases q:j=i
  ·rw [if_pos q,if_pos q.symm]
  ·rw [if_neg q,if_neg (fun e=>q e.symm)]
theorem Abs {T:Tb} (hs:Bd P T) (h:As n B Iq s g a w) {f:FuncId} {vs:List Vl} {args:List Value} (hv:Sk s g w vs args) {cs:List Bool} {av:AV} {s':St} (e:Aeo T s f vs=some (cs,av,s')) (hcs:Hm cs=true):
  Es P f∧O0 P f args.toArray n B Iq s g a w av s':=by
 unfold Aeo at e
 split at e
 ·rename_i id
  split at e
  ·rename_i BT l0 l1 hr
   match args,hv with
   | [u],hv=>
   have hl:=hv.1.1
   simp only [A7,hr] at hl
   obtain ⟨b,hb,hu⟩:=hl
   subst hu
   have r:=h.res id
   rw [hr] at r
   obtain ⟨b',cs,hb',hh,hL⟩:=r
   obtain rfl:b=b':=Option.some.inj (hb.symm.trans hb')
   obtain ⟨v0,v1,hcs⟩:∃ v0 v1,cs=#[v0,v1]:=by
    have:=hL.length
    match cs,this with
    | ⟨[x,y]⟩,_=>exact ⟨x,y,rfl⟩
   subst hcs
   have hL0:=hL.1
   have hL1:=hL.2.1
   have hlive:(s.res id).live=true:=by rw [hr]; rfl
   have hlt:=h.lt id b hb
   cases hcc:Ah0 T f BT with
   | true=>
    rw [hcc] at e
    simp only [cond_true] at e
    have hT:T.cc=some (f,BT):=by
     unfold Ah0 at hcc
     split at hcc
     ·rename_i f' B' hq
      simp only [Bool.and_eq_true] at hcc
      rw [hq,Nat.eq_of_beq_eq_true hcc.1,Nat.eq_of_beq_eq_true hcc.2]
     ·cases hcc
    obtain ⟨hcal,hok⟩:=hs.cc f BT hT
    refine ⟨hcal,?_⟩
    have become:∀ {p0:Value},Calls P f #[.pointer (some ⟨b,0,none⟩)] w (fun e w'=>e=.returned (.tuple #[])∧Fm [b] w w'∧w'.heap[b]? = some (.cells #[.pointer (some ⟨b,0,none⟩),v1] BT (0,0)))→
      O0 P f #[.pointer (some ⟨b,0,none⟩)] n B Iq s g a w (.tp []) (s.setRes id (.box BT [.ptr id 0,l1])):=by
     intro p0 hcx
     refine Calls.mono hcx fun en w'=>?_
     rintro ⟨rfl,hk,hh'⟩
     have hS:∀ c,By s g c→c < w.heap.size→By (s.setRes id (.box BT [.ptr id 0,l1])) g c∧w'.heap[c]? = w.heap[c]? := by
      intro c hc hc'
      refine ⟨⟨hc.1,fun j hj=>?_,fun j hj=>hc.2.2 j (B4 rfl hj)⟩,hk.block c hc' (by simp only [List.mem_singleton]; rintro rfl; exact hc.2.1 id hlive hb)⟩
      by_cases q:j=id
      ·rw [q]; exact hc.2.1 id hlive
      ·rw [Ac s _ q] at hj; exact hc.2.1 j hj
     have hI:∀ j,Ag s g (s.setRes id (.box BT [.ptr id 0,l1])) g j:=by
      intro j
      by_cases q:j=id
      ·subst q
       unfold Ag
       rw [hr]
       exact .inr ⟨_,_,Ab _ _ _,rfl⟩
      ·exact Ag.same (Ac s _ q) rfl rfl
     refine ⟨.tuple #[],g,rfl,⟨hk.toKp h.base (fun c hc=>by simp only [List.mem_singleton] at hc; subst hc; exact hlt.2.1),hS,hI,rfl⟩,?_,⟨#[],rfl,rfl,fun j v hv=>by simp at hv⟩⟩
     refine h.step h.size h.defers hk.size hS hI (fun i=>.inl ⟨rfl,rfl⟩) (fun j=>?_) h.inj (fun i c hi=>⟨Nat.lt_of_lt_of_le (h.lt i c hi).1 hk.size,(h.lt i c hi).2⟩) rfl (NK.of h hk.size (fun j c h1 h2=>⟨B4 rfl h1,h2⟩) (fun _ _=>rfl) (fun c hc hno=>hk.block c hc (by simp only [List.mem_singleton]; rintro rfl; exact hno id hb)) fun j c hj=>.inl ⟨j,hj⟩)
     by_cases q:j=id
     ·subst q
      right
      rw [Ab]
      refine ⟨b,_,hb,hh',⟨?_,rfl⟩,⟨A7.step hS hI hL1.1,hL1.2⟩,trivial⟩
      simp only [A7,Ab]
      exact ⟨b,hb,rfl⟩
     ·exact .inl ⟨Ac s _ q,rfl,rfl,fun c hc=>hk.block c (h.lt j c hc).1 (by simp only [List.mem_singleton]; rintro rfl; exact q (h.inj j id c hc hb))⟩
    unfold ccD at e
    split at e
    ·cases e
     have h0:v0=.pointer none:=hL0.1
     subst h0
     exact become (p0:=undef) ((hok w b v1).1 hh)
    ·rename_i j
     split at e<;>cases e
     rename_i hj
     subst hj
     have h0:=hL0.1
     simp only [A7,hr] at h0
     obtain ⟨b2,e1,e2⟩:=h0
     obtain rfl:b=b2:=Option.some.inj (hb.symm.trans e1)
     subst e2
     refine Calls.mono ((hok w b v1).2 hh) fun en w'=>?_
     rintro ⟨rfl,hk⟩
     have hS:∀ c,By s g c→c < w.heap.size→By s g c∧w'.heap[c]? = w.heap[c]? := fun c hc hc'=>⟨hc,hk.block c hc' (by simp)⟩
     have hI:∀ j,Ag s g s g j:=fun _=>Ag.same rfl rfl rfl
     refine ⟨.tuple #[],g,rfl,⟨hk.toKp h.base (fun c hc=>by simp at hc),hS,hI,rfl⟩,?_,⟨#[],rfl,rfl,fun j v hv=>by simp at hv⟩⟩
     exact h.step h.size h.defers hk.size hS hI (fun i=>.inl ⟨rfl,rfl⟩) (fun j=>.inl ⟨rfl,rfl,rfl,fun c hc=>hk.block c (h.lt j c hc).1 (by simp)⟩) h.inj (fun i c hi=>⟨Nat.lt_of_lt_of_le (h.lt i c hi).1 hk.size,(h.lt i c hi).2⟩) rfl (NK.of h hk.size (fun j c h1 h2=>⟨h1,h2⟩) (fun _ _=>rfl) (fun c hc _=>hk.block c hc (by simp)) fun j c hj=>.inl ⟨j,hj⟩)
    ·rename_i j
     split at e<;>cases e
     rename_i hj
     subst hj
     have h0:=hL0.1
     simp only [A7,hr] at h0
     rcases h0 with h0 | ⟨b2,e1,e2⟩
     ·subst h0
      exact become (p0:=undef) ((hok w b v1).1 hh)
     ·obtain rfl:b=b2:=Option.some.inj (hb.symm.trans e1)
      subst e2
      refine become (p0:=undef) (Calls.mono ((hok w b v1).2 hh) fun en w'=>?_)
      rintro ⟨rfl,hk⟩
      exact ⟨rfl,⟨hk.os,hk.tape,hk.output,hk.size,fun k q _=>hk.block k q (by simp)⟩,(hk.block b hlt.1 (by simp)).trans hh⟩
    ·cases e
   | false=>
    rw [hcc] at e
    simp only [cond_false] at e
    split at e
    ·rename_i ety hst
     have hT:T.st=some (f,BT,ety):=by
      unfold Air at hst
      split at hst
      ·rename_i f' B' e' hq
       cases hc:(Nat.beq f' f&&Nat.beq B' BT) with
       | false=>rw [hc] at hst; cases hst
       | true=>
        rw [hc] at hst
        simp only [Bool.and_eq_true] at hc
        cases hst
        rw [hq,Nat.eq_of_beq_eq_true hc.1,Nat.eq_of_beq_eq_true hc.2]
      ·cases hst
     obtain ⟨hcal,hok⟩:=hs.st f BT ety hT
     refine ⟨hcal,?_⟩
     obtain ⟨p,e1,e⟩:=Al e
     cases e
     have hbytes:Ei p.2=true:=by simpa [Hm] using hcs
     obtain ⟨⟨cs1,o1,o2⟩,k2,k3⟩:=Ni h.res e1 hL1.1
     have hne:v1.ownBlock≠some b:=by
      rw [k2]
      intro q
      cases hp:p.1 with
      | none=>rw [hp] at q; cases q
      | some j=>
       rw [hp] at q
       have:j=id:=h.inj j id b q hb
       subst this
       obtain ⟨e',r1,_⟩:=Y6 e1 j hp
       rw [hr] at r1
       cases r1
     refine Calls.mono (hok w b v0 v1 p.2 cs1 hbytes hh o1 (o2.imp fun _ _ _=>trivial) hne) fun en w'=>?_
     rintro ⟨rfl,hk⟩
     rw [k2] at hk
     let g':Gh:=⟨fun j=>if p.1=some j then none else g.blk j,g.hdr,g.av,g.innL⟩
     have hgb:∀ j c,g'.blk j=some c→g.blk j=some c∧p.1≠some j:=by
      intro j c q
      by_cases hq:p.1=some j
      ·have:g'.blk j=none:=if_pos hq
       rw [this] at q
       cases q
      ·have:g'.blk j=g.blk j:=if_neg hq
       exact ⟨by rw [← this]; exact q,hq⟩
     have hmem:∀ c,c∈(p.1.bind g.blk).toList→∃ j,p.1=some j∧g.blk j=some c:=by
      intro c hc
      simp only [Option.mem_toList] at hc
      obtain ⟨j,q1,q2⟩:=Al hc
      exact ⟨j,q1,q2⟩
     have hkn:∀ j,((Bv s p.1).res j).nst=true→(s.res j).nst=true:=fun j hj=>by
      rw [Gp] at hj
      split at hj
      ·cases hj
      ·exact hj
     have hS:∀ c,By s g c→c < w.heap.size→By (Bv s p.1) g' c∧w'.heap[c]? = w.heap[c]? := by
      intro c hc hc'
      refine ⟨⟨hc.1,fun j hj hk'=>?_,fun j hj hi=>hc.2.2 j (hkn j hj) hi⟩,hk.block c hc' (fun q=>?_)⟩
      ·obtain ⟨q1,q2⟩:=hgb j c hk'
       rw [Gp,if_neg q2] at hj
       exact hc.2.1 j hj q1
      ·obtain ⟨j,q1,q2⟩:=hmem c q
       exact hc.2.1 j (k3 j q1).1 q2
     have hI:∀ j,Ag s g (Bv s p.1) g' j:=by
      intro j
      by_cases q:p.1=some j
      ·exact .inl (by rw [Gp,if_pos q])
      ·exact Ag.same (by rw [Gp,if_neg q]) (if_neg q) rfl
     refine ⟨_,g',rfl,⟨hk.toKp h.base (fun c hc=>?_),hS,hI,rfl⟩,?_,⟨rfl,rfl⟩⟩
     ·obtain ⟨j,q1,q2⟩:=hmem c hc
      exact (h.lt j c q2).2.1
     ·refine h.step h.size h.defers hk.size hS hI (fun i=>.inl ⟨by cases p.1<;>rfl,rfl⟩) (fun j=>?_) (fun i j c hi hj=>h.inj i j c (hgb i c hi).1 (hgb j c hj).1) (fun i c hi=>?_) rfl (NK.of h hk.size (fun j c h1 h2=>⟨hkn j h1,h2⟩) (fun _ _=>rfl) (fun c hc hno=>hk.block c hc fun q=>by obtain ⟨j,_,q2⟩:=hmem c q; exact hno j q2) fun j c hj=>.inl ⟨j,(hgb j c hj).1⟩)
      ·by_cases q:p.1=some j
       ·right
        rw [Gp,if_pos q]
        exact if_pos q
       ·left
        refine ⟨by rw [Gp,if_neg q],if_neg q,rfl,fun c hc=>hk.block c (h.lt j c hc).1 (fun q2=>?_)⟩
        obtain ⟨j',q3,q4⟩:=hmem c q2
        exact q (by rw [q3,h.inj j' j c q4 hc])
      ·obtain ⟨q1,_⟩:=hgb i c hi
       exact ⟨Nat.lt_of_lt_of_le (h.lt i c q1).1 hk.size,(h.lt i c q1).2⟩
    ·cases e
  ·cases e
 ·cases e
theorem Vs (n:Nat) (s:St) (d:Option Tmp) (av:AV):(s.put n d av).res=s.res:=by
 cases d with
 | none=>rfl
 | some d=>unfold St.put; simp only; split<;>rfl
theorem G2 (h:As n B Iq s g a w) {av:AV} {v:Value} (d:Option Tmp) (hv:Jn s g w av v):As n B Iq (s.put n d av) g (a.put d v) w∧Go B Iq s g w (s.put n d av) g w:=by
 have hr:=Vs n s d av
 have hS:∀ b,By s g b→b < w.heap.size→By (s.put n d av) g b∧w.heap[b]? = w.heap[b]? := by
  intro b hb _
  refine ⟨⟨hb.1,fun id hl=>?_,fun id hn=>hb.2.2 id (by rw [hr] at hn; exact hn)⟩,rfl⟩
  rw [hr] at hl
  exact hb.2.1 id hl
 have hI:∀ id,Ag s g (s.put n d av) g id:=fun id=>Ag.same (by rw [hr]) rfl rfl
 refine ⟨h.step ?_ ?_ (Nat.le_refl _) hS hI (fun i=>?_) (fun id=>.inl ⟨by rw [hr],rfl,rfl,fun _ _=>rfl⟩) h.inj h.lt rfl (NK.alike h hr),⟨Kp.refl B Iq w,hS,hI,rfl⟩⟩
 ·cases d with
  | none=>exact h.size
  | some d=>simp [Act.put,h.size]
 ·cases d with
  | none=>exact h.defers
  | some d=>exact h.defers
 ·cases d with
  | none=>exact .inl ⟨rfl,rfl⟩
  | some d=>
   by_cases hdn:Nat.blt d n=true
   ·have hlt:d < a.tmps.size:=by rw [h.size]; exact Nat.le_of_ble_eq_true hdn
    by_cases q:i=d
    ·subst q
     right
     have hc:(s.put n (some i) av).cell i=av:=by simp [St.put,St.setCell,hdn]
     rw [hc]
     have hv':Jn (s.put n (some i) av) g w av v:=Jn.step hS hI hv
     have:(a.put (some i) v).tmps.getD i undef=v:=by simp [Act.put,Array.getD,hlt]
     rw [this]
     exact hv'
    ·left
     refine ⟨by simp [St.put,St.setCell,hdn,Ae _ _ q],?_⟩
     simp [Act.put,Array.getD_eq_getD_getElem?,Array.getElem?_setIfInBounds_ne (Ne.symm q)]
   ·have hge:a.tmps.size≤d:=by
     rw [h.size]
     rcases Nat.lt_or_ge d n with q | q
     ·exact absurd (Nat.ble_eq_true_of_le q) hdn
     ·exact q
    left
    refine ⟨by simp [St.put,hdn],?_⟩
    simp [Act.put,Array.setIfInBounds_eq_of_size_le hge]
theorem E6.call {f:FuncId} {xs:List Operand} {o:Oper} (hc:Fr o=some (f,xs)) (hcal:Es P f) {av:AV} {s':St} (h:O0 P f (xs.map a.eval).toArray n B Iq s g a w av s'):E6 P n B Iq s g a w o av s':=by
 obtain ⟨dst,op,type,pos,after,guard⟩:=o
 unfold Fr at hc
 split at hc
 ·rename_i c hop
  split at hc<;>cases hc
  rename_i hcallee
  obtain ⟨callee,args,argTypes⟩:=c
  simp only at hop hcallee
  subst hop hcallee
  intro K Q hK
  unfold Oper.wp
  rw [execOp_call_go,Rj hcal,Oper.upon_enter]
  have hargs:(#[]++args.map a.eval++#[]:Array Value)=(args.toList.map a.eval).toArray:=by
   apply Array.toList_inj.1
   simp
  rw [hargs]
  refine Calls.mono h fun en w'=>?_
  rintro ⟨v,g',rfl,k1,k2,k3⟩
  exact hK v g' w' k1 k2 k3
 ·cases hc
theorem Aeq {T:Tb} (hs:Bd P T) (h:As n B Iq s g a w) {nid:Nat} {o:Oper} {cs:List Bool} {av:AV} {s':St} (e:Aep P T s nid o=some (cs,av,s')) (hcs:Hm cs=true):E6 P n B Iq s g a w o av s':=by
 unfold Aep at e
 split at e
 ·rename_i f xs hc
  split at e
  ·rename_i vs hvs
   obtain ⟨k1,k2⟩:=Abs hs h (Oz h hvs) e hcs
   exact E6.call hc k1 k2
  ·cases e
 ·exact Rh h (by rw [e]; simp [En,hcs])
theorem T5 {a b:List Bool}:Hm (a++b)=true→Hm a=true∧Hm b=true:=by
 induction a with
 | nil=>intro h; exact ⟨rfl,h⟩
 | cons x r ih=>
  intro h
  simp only [List.cons_append,Hm,Bool.and_eq_true] at h ⊢
  exact ⟨⟨h.1,(ih h.2).1⟩,(ih h.2).2⟩
theorem Abt {T:Tb} (hs:Bd P T) {ops:Array Oper} {Q:Exit→Act→World→Prop}:∀ {l:List Oper} {nid:Nat} {s:St} {g:Gh} {a:Act} {w:World} {cs:List Bool} {s':St},
  Agh P T n l nid s=some (cs,s')→Hm cs=true→As n B Iq s g a w→(∀ g' a' w',Go B Iq s g w s' g' w'→As n B Iq s' g' a' w'→Q .normal a' w')→wpList P ops Q l a w
 | [],nid,s,g,a,w,cs,s',e,hcs,h,hk=>by cases e; exact hk g a w (Go.refl _ _ _ _ _) h
 | o::l,nid,s,g,a,w,cs,s',e,hcs,h,hk=>by
  simp only [Agh] at e
  split at e
  ·cases e
  ·rename_i hg
   split at e
   ·rename_i cs1 av s1 e1
    split at e
    ·rename_i cs2 s2 e2
     cases e
     obtain ⟨b1,b2⟩:=T5 hcs
     unfold wpList
     have hw:Region.wanted o (yielded ops a.tmps)=true:=by unfold Region.wanted; rw [hg]
     rw [hw,if_pos rfl]
     left
     refine Aeq hs h e1 b1 _ Q fun v g' w' k1 k2 k3=>?_
     obtain ⟨r1,r2⟩:=G2 k2 o.dst k3
     exact Abt hs e2 b2 r1 fun g2 a2 w2 q1 q2=>hk g2 a2 w2 ((k1.trans r2).trans q1) q2
    ·cases e
   ·cases e
def Aje (r:Bool):Exit:=bif r then .ret else .normal
theorem Agj {T:Tb} (hs:Bd P T):∀ (c:Code) {nid:Nat} {s:St} {g:Gh} {a:Act} {w:World} {cs:List Bool} {r:Bool} {s':St} {Q:Exit→Act→World→Prop},
  Yr P T n c nid s=some (cs,r,s')→Hm cs=true→As n B Iq s g a w→(∀ g' a' w',Go B Iq s g w s' g' w'→As n B Iq s' g' a' w'→Q (Aje r) a' w')→c.wp P Q a w:=by
 intro c
 induction c with
 | skip=>intro nid s g a w cs r s' Q e hcs h hk; cases e; exact wp_skip (hk g a w (Go.refl _ _ _ _ _) h)
 | region id ops draw=>
  intro nid s g a w cs r s' Q e hcs h hk
  simp only [Yr] at e
  cases draw with
  | true=>cases e
  | false=>
   simp only [cond_false] at e
   split at e
   ·rename_i cs1 s1 e1
    cases e
    exact wp_region_list (Abt hs e1 hcs h hk)
   ·cases e
 | seq x y ihx ihy=>
  intro nid s g a w cs r s' Q e hcs h hk
  simp only [Yr] at e
  split at e
  ·rename_i cs1 s1 e1
   cases e
   exact wp_seq (ihx e1 hcs h fun g' a' w' k1 k2=>hk g' a' w' k1 k2)
  ·rename_i cs1 s1 e1
   split at e
   ·rename_i cs2 r2 s2 e2
    cases e
    obtain ⟨b1,b2⟩:=T5 hcs
    exact wp_seq (ihx e1 b1 h fun g' a' w' k1 k2=>ihy e2 b2 k2 fun g2 a2 w2 q1 q2=>hk g2 a2 w2 (k1.trans q1) q2)
   ·cases e
  ·cases e
 | cond c x y ihx ihy=>
  intro nid s g a w cs r s' Q e hcs h hk
  simp only [Yr] at e
  split at e
  ·rename_i ht
   exact wp_cond_true (Bn h ht).1 (ihx e hcs h hk)
  ·rename_i ht
   exact wp_cond_false (Bn h ht).1 (ihy e hcs h hk)
  ·cases e
 | ret=>intro nid s g a w cs r s' Q e hcs h hk; cases e; exact wp_ret (hk g a w (Go.refl _ _ _ _ _) h)
 | _=>intros; rename_i e _ _ _; first | (cases e; done) | (simp [Yr] at e; done)
theorem Ns (h:As n B Iq s g a w):∀ {rv:List ResultVar} {vs:List Vl},G1 P s rv=some vs→
  ∃ us,(rv.mapM fun x:ResultVar=>(match x with | .tmp t=>pure (a.tmps.getD t undef) | .cell b t=>do loadVar t (← asAddr (a.tmps.getD b undef)):Sem Value)).run P w=.ok us w∧Sk s g w vs us
 | [],vs,e=>by cases e; exact ⟨[],by simp,trivial⟩
 | .tmp t::r,vs,e=>by
  simp only [G1] at e
  split at e
  ·rename_i v hv
   obtain ⟨vs',e1,rfl⟩:=Option.map_eq_some_iff.1 e
   obtain ⟨us,k1,k2⟩:=Ns h e1
   have k:=h.cell t
   rw [hv] at k
   refine ⟨a.tmps.getD t undef::us,?_,k,k2⟩
   simp only [List.mapM_cons,Sem.run_bind,Sem.run_pure,Result.andThen_ok]
   rw [k1]
   rfl
  ·cases e
 | .cell b t::r,vs,e=>by
  simp only [G1] at e
  split at e
  ·rename_i v hv
   obtain ⟨vs',e1,rfl⟩:=Option.map_eq_some_iff.1 e
   obtain ⟨us,k1,k2⟩:=Ns h e1
   unfold V9 at hv
   obtain ⟨l,q1,hv⟩:=Al hv
   obtain ⟨ls,q2,hv⟩:=Al hv
   obtain ⟨hl,_⟩:=Bf h q1
   obtain ⟨ad,cs,hu,hL,hc⟩:=Ahu h q2 hl
   obtain ⟨u,hr,hvv⟩:=Ia hv hL hc
   have hu':a.tmps.getD b undef=.pointer (some ad):=hu
   refine ⟨u::us,?_,hvv,k2⟩
   simp only [List.mapM_cons,Sem.run_bind,hu']
   have ha:(asAddr (.pointer (some ad)):Sem Addr).run P w=.ok ad w:=by simp [asAddr]
   rw [ha]
   simp only [Result.andThen_ok,hr,k1]
   rfl
  ·cases e
theorem T6 (h:As n B Iq s g a w) {fn:Func} {vs:List Vl} (e:G1 P s fn.results.toList=some vs):∃ us,(results fn a.tmps).run P w=.ok (d6 us) w∧Sk s g w vs us:=by
 obtain ⟨us,k1,k2⟩:=Ns h e
 refine ⟨us,?_,k2⟩
 unfold results
 rw [Array.mapM_eq_mapM_toList]
 simp only [Sem.run_bind,Sem.run_map]
 refine Eq.trans (congrArg (fun r:Result (List Value)=>(r.andThen fun a w'=>Result.ok a.toArray w').andThen fun a w'=>Sem.run P (pure (if h:a.size=1 then a[0] else Value.tuple a)) w') k1) ?_
 clear k1 k2
 match us with
 | []=>rfl
 | [u]=>rfl
 | u::v::us=>rfl
theorem Agk {T:Tb} (hs:Bd P T) (h:As n B Iq s g a w) {f:FuncId} {fn:Func} (hf:P.funcs[f]? = some fn) {vs:List Vl} {args:List Value} (hv:Sk s g w vs args) {nid:Nat} {av:AV} {s':St}
  (e:En (Agi P T fn vs s nid)=some (av,s')):O0 P f args.toArray n B Iq s g a w av s':=by
 obtain ⟨cs,e,hcs⟩:=A2 e
 unfold Agi at e
 split at e
 ·cases e
 ·rename_i c hb
  cases hle:Nat.ble vs.length fn.ntmps with
  | false=>rw [hle] at e; cases e
  | true=>
   rw [hle] at e
   simp only [cond_true] at e
   have hle:=Nat.le_of_ble_eq_true hle
   split at e
   ·rename_i cs1 r1 s1 e1
    split at e
    ·rename_i vs' e2
     cases e
     have hlen:=hv.length
     have hent:As fn.ntmps B Iq (h8 s vs) g { tmps:=args.toArray++Array.replicate (fn.ntmps - args.toArray.size) undef,defers:=[] } w:=by
      refine ⟨by simp; omega,rfl,h.base,fun i=>?_,fun id=>?_,h.inj,h.lt,h.avB,h.inn⟩
      ·show Jn _ _ _ (match vs[i]? with | some v=>.vl v | none=>.dead) _
       cases hi:vs[i]? with
       | none=>trivial
       | some v=>
        obtain ⟨u,q1,q2⟩:=hv.get hi
        have hlt:=(List.getElem?_eq_some_iff.1 q1).1
        have:(args.toArray++Array.replicate (fn.ntmps - args.toArray.size) undef).getD i undef=u:=by
         rw [Array.getD_eq_getD_getElem?,Array.getElem?_append_left (by simpa using hlt),List.getElem?_toArray,q1]
         rfl
        rw [this]
        exact P1.step (s:=s) (s':=h8 s vs) (g:=g) (g':=g) (w:=w) (w':=w) (fun b hb _=>⟨hb,rfl⟩) (fun _=>Ag.same rfl rfl rfl) q2
      ·exact D1.step (s:=s) (s':=h8 s vs) (g:=g) (g':=g) (w:=w) (w':=w) (fun b hb _=>⟨hb,rfl⟩) (fun _=>Ag.same rfl rfl rfl) rfl rfl (fun _ _=>rfl) (fun _=>⟨rfl,fun _ _=>rfl⟩) (h.res id)
     refine calls_of_wp hf hb ?_
     refine Agj hs c e1 hcs hent fun g' a' w' k1 k2=>?_
     obtain ⟨us,q1,q2⟩:=T6 k2 e2
     have hgo:Go B Iq s g w ⟨s.cell,s1.res⟩ g' w':=⟨k1.kp,fun b hb hl=>k1.S b hb hl,fun id=>k1.ref id,k1.av⟩
     have hrel:As n B Iq ⟨s.cell,s1.res⟩ g' a w':=by
      refine ⟨h.size,h.defers,Nat.le_trans h.base k1.kp.size,fun i=>Jn.step (fun b hb hl=>hgo.S b hb hl) (fun id=>hgo.ref id) (h.cell i),fun id=>?_,k2.inj,k2.lt,k2.avB,k2.inn⟩
      exact D1.step (s:=s1) (s':=⟨s.cell,s1.res⟩) (g:=g') (g':=g') (w:=w') (w':=w') (fun b hb _=>⟨hb,rfl⟩) (fun _=>Ag.same rfl rfl rfl) rfl rfl (fun _ _=>rfl) (fun _=>⟨rfl,fun _ _=>rfl⟩) (k2.res id)
     have hav:Jn ⟨s.cell,s1.res⟩ g' w' (Aae vs') (d6 us):=Jn.step (s:=s1) (s':=⟨s.cell,s1.res⟩) (g:=g') (g':=g') (w:=w') (w':=w') (fun b hb _=>⟨hb,rfl⟩) (fun _=>Ag.same rfl rfl rfl) (Aec q2)
     cases r1
     ·exact ⟨k2.defers,_,q1,_,g',rfl,hgo,hrel,hav⟩
     ·exact ⟨k2.defers,_,q1,_,g',rfl,hgo,hrel,hav⟩
    ·cases e
   ·cases e
theorem Aer:∀ {ls:List Lf} {cs:List Value},C7 s g w ls cs→Sk s g w (Agg ls) cs
 | [],[],_=>trivial
 | [],_::_,h=>h.elim
 | _::_,[],h=>h.elim
 | _::_,_::_,h=>⟨h.1,Aer h.2⟩
theorem Sk.append:∀ {vs vs':List Vl} {us us':List Value},Sk s g w vs us→Sk s g w vs' us'→Sk s g w (vs++vs') (us++us')
 | [],_,[],_,_,h'=>h'
 | [],_,_::_,_,h,_=>h.elim
 | _::_,_,[],_,h,_=>h.elim
 | _::_,_,_::_,_,h,h'=>⟨h.1,Sk.append h.2 h'⟩
theorem Nt {sigs:Tb} (hs:Bd P sigs) (h:As n B Iq s g a w) {nid:Nat} {o:Oper} {av:AV} {s':St} (e:Iu P sigs s nid o=some (av,s')):E6 P n B Iq s g a w o av s':=by
 unfold Iu at e
 split at e
 ·rename_i f xs hc
  split at e
  ·rename_i vs hvs
   have hV:=Oz h hvs
   split at e
   ·rename_i sd hsd
    obtain ⟨hcal,hsound⟩:=hs.sd f sd hsd
    exact E6.call hc hcal (Y7 h hsound hV e)
   ·split at e
    ·rename_i fn hfn
     obtain ⟨q1,q2,q3⟩:=hs.inl f fn hfn
     exact E6.call hc ⟨fn,q1,q2,q3⟩ (Agk hs h q1 hV e)
    ·obtain ⟨cs,e1,hcs⟩:=A2 e
     obtain ⟨q1,q2⟩:=Abs hs h hV e1 hcs
     exact E6.call hc q1 q2
  ·cases e
 ·split at e
  ·rename_i f xs ls hc
   split at e
   ·rename_i vs hvs
    split at e
    ·rename_i sd hsd
     obtain ⟨hcal,hsound⟩:=hs.sd f sd hsd
     obtain ⟨dst,op,type,pos,after,guard⟩:=o
     unfold Ri at hc
     split at hc
     ·rename_i c hop
      split at hc
      ·rename_i t hcallee
       split at hc<;>cases hc
       rename_i hcell
       obtain ⟨callee,args,argTypes⟩:=c
       simp only at hop hcallee
       subst hop hcallee
       have k:=h.cell t
       rw [hcell] at k
       obtain ⟨caps,hu,hL⟩:=k
       have hu':a.eval (.tmp t)=.func (.func f) #[] caps:=hu
       intro K Q hK
       unfold Oper.wp
       have hex:execOp a.eval ⟨dst,.call ⟨.value (.tmp t),args,argTypes⟩,type,pos,after,guard⟩=callFunc f (#[]++args.map a.eval++caps):=by
        simp only [execOp,resolve,hu',Deferred.ofValue]
        rfl
       rw [hex,Rj hcal,Oper.upon_enter]
       have hargs:(#[]++args.map a.eval++caps:Array Value)=(args.toList.map a.eval++caps.toList).toArray:=by
        apply Array.toList_inj.1
        simp
       rw [hargs]
       refine Calls.mono (Y7 h hsound (Sk.append (Oz h hvs) (Aer hL)) e) fun en w'=>?_
       rintro ⟨v,g',rfl,k1,k2,k3⟩
       exact hK v g' w' k1 k2 k3
      ·cases hc
     ·cases hc
    ·cases e
   ·cases e
  ·exact Aem h e
end
end
section
def Qb:Lf→List Nat
 | .row id=>[id]
 | .ptr id _=>[id]
 | .rp id _ _=>[id]
 | .sp id=>[id]
 | _=>[]
def L1:List Lf→List Nat
 | []=>[]
 | l::r=>Qb l++L1 r
def Wz (v:Vl):List Nat:=L1 v.ls
def Vt:List Vl→List Nat
 | []=>[]
 | v::r=>Wz v++Vt r
def Fs:AV→List Nat
 | .dead=>[]
 | .vl v=>Wz v
 | .tp vs=>Vt vs
 | .fn _ ls=>L1 ls
def L2:Dj→List Nat
 | .box _ ls=>L1 ls
 | _=>[]
def T7:Dj→List Nat
 | .last _ _ _ _ j=>[j]
 | .mid _ _ _ _ j=>[j]
 | _=>[]
def E1:List Operand→List Nat
 | []=>[]
 | .tmp t::r=>t::E1 r
 | _::r=>E1 r
def B2 (o:Oper):List Nat:=E1 o.op.operands.toList
def Ec (l:List Nat) (i:Nat):Bool:=match l with
 | []=>false
 | j::r=>Nat.beq j i || Ec r i
theorem Bh {l:List Nat} {i:Nat}:Ec l i=true↔i∈l:=by
 induction l with
 | nil=>simp [Ec]
 | cons j r ih=>
  simp only [Ec,Bool.or_eq_true,ih,List.mem_cons,Nat.beq_eq]
  constructor
  ·rintro (h | h)
   ·exact .inl h.symm
   ·exact .inr h
  ·rintro (h | h)
   ·exact .inl h.symm
   ·exact .inr h
def Ds (s:St):List Nat→List Nat
 | []=>[]
 | i::r=>Fs (s.cell i)++Ds s r
def Ed (s:St):List Nat→List Nat
 | []=>[]
 | i::r=>L2 (s.res i)++Ed s r
def Rk (s:St) (sl:List Nat):List Nat:=
 let l0:=Ds s sl
 let l1:=l0++Ed s l0
 l1++Ed s l1
def Qc (s:St):List Nat→List Nat
 | []=>[]
 | i::r=>T7 (s.res i)++Qc s r
def Ft (o:Oper):Bool:=match o.op with
 | .move x=>!T4 x
 | .assign x=>!T4 x
 | .indexAddr _ _ _=>true
 | .call c=>(match c.callee with
  | .builtin .len=>true
  | _=>false)
 | _=>false
def Ys (o:Oper):Bool:=match o.op with
 | .move x=>!T4 x
 | .assign x=>!T4 x
 | _=>false
theorem Aes {o:Oper} (h:Ys o=true):Ft o=true:=by
 unfold Ys at h
 unfold Ft
 split at h
 ·rename_i q; rw [q]; exact h
 ·rename_i q; rw [q]; exact h
 ·cases h
def Iv (s:St) (o:Oper):List Nat:=if Ys o then [] else if Ft o then Rk s (B2 o) else Rk s (B2 o)++Qc s (Rk s (B2 o))
def Rl (l m:List Nat):Bool:=match l with
 | []=>true
 | i::r=>Ec m i&&Rl r m
theorem S4 {l m:List Nat}:Rl l m=true↔∀ i∈l,i∈m:=by
 induction l with
 | nil=>simp [Rl]
 | cons j r ih=>simp [Rl,Bh,ih]
def W0:Nat:=4
def Fl (nid:Nat):List Nat:=[nid,nid + 1,nid + 2,nid + 3]
def St.view (s:St) (sl ids:List Nat):St:=⟨fun i=>if Ec sl i then s.cell i else .dead,fun id=>if Ec ids id then s.res id else .unborn⟩
def St.lay (s v:St) (m:List Nat):St:=⟨s.cell,fun id=>if Ec m id then v.res id else s.res id⟩
def Ig (o:Oper) (s:St) (m:List Nat):Bool:=Rl (Ed s m) m&&(Ft o || Rl (Qc s m) m)
def Pt (P:Program) (sigs:Tb) (s:St) (nid:Nat) (o:Oper):Option (AV×St):=
 let sl:=B2 o
 let ids:=Iv s o
 if Gn s nid W0 then (if Ig o s ids then (Iu P sigs.dr (s.view sl ids) nid o).bind fun p=>
  if Ys o || Rl (Fs p.1) (ids++Fl nid) then (if Ig o p.2 (ids++Fl nid) then some p else none) else none
 else none) else none
section
variable {P:Program} {n B:Nat} {Iq:List Nat} {s:St} {g:Gh} {a:Act} {w:World}
theorem Nu (h:∀ id,D1 s g w id (s.res id)) {id b:Nat} (hb:g.blk id=some b):(s.res id).live=true:=by
 have r:=h id
 cases hr:s.res id with
 | box T ls=>rfl
 | row e t xs=>rfl
 | unborn=>rw [hr] at r; exact absurd (hb.symm.trans r) (by simp)
 | dead=>rw [hr] at r; exact absurd (hb.symm.trans r) (by simp)
 | frozen t xs=>rw [hr] at r; exact absurd (hb.symm.trans r.2) (by simp)
 | last _ _ _ _ _=>rfl
 | mid _ _ _ _ _=>rfl
 | map _ _=>rfl
 | iter _ _ _ _=>rfl
theorem A7.part {s s':St} {g g':Gh} {w:World} {m:List Nat} (hS:∀ b,By s g b→b < w.heap.size→By s' g' b) (hm:∀ id∈m,s'.res id=s.res id∧g'.blk id=g.blk id∧g'.hdr id=g.hdr id):
  ∀ {l:Lf} {u:Value},(∀ id∈Qb l,id∈m)→A7 s g w l u→A7 s' g' w l u
 | .c _,_,_,h=>h
 | .sl _ _,_,_,h=>Ty.K_keep (fun b hb hl=>⟨hS b hb hl,rfl⟩) h
 | .row id,u,hi,h=>by
  obtain ⟨e1,e2,e3⟩:=hm id (hi id (by simp [Qb]))
  simp only [A7] at h ⊢
  rw [e1,e3]
  exact h
 | .ptr id off,u,hi,h=>by
  obtain ⟨e1,e2,e3⟩:=hm id (hi id (by simp [Qb]))
  simp only [A7] at h ⊢
  rw [e1,e2]
  exact h
 | .ep t xs i off,u,_,⟨ad,cs,h1,h2,h3,h4,h5⟩=>⟨ad,cs,h1,hS _ h2 h3,h3,Ty.K_keep (fun b hb hl=>⟨hS b hb hl,rfl⟩) h4,h5⟩
 | .rp id i off,u,hi,h=>by
  obtain ⟨e1,e2,e3⟩:=hm id (hi id (by simp [Qb]))
  simp only [A7] at h ⊢
  rw [e1,e2]
  exact h
 | .sp id,u,hi,h=>by
  obtain ⟨e1,e2,e3⟩:=hm id (hi id (by simp [Qb]))
  simp only [A7] at h ⊢
  rw [e1,e2]
  exact h
section
variable {s':St} {g':Gh} {m:List Nat} (hS:∀ b,By s g b→b < w.heap.size→By s' g' b) (hm:∀ id∈m,s'.res id=s.res id∧g'.blk id=g.blk id∧g'.hdr id=g.hdr id)
 include hS hm
theorem C7.part:∀ {ls:List Lf} {cs:List Value},(∀ id∈L1 ls,id∈m)→C7 s g w ls cs→C7 s' g' w ls cs
 | [],[],_,_=>trivial
 | [],_::_,_,h=>h.elim
 | _::_,[],_,h=>h.elim
 | l::ls,_::_,hi,h=>⟨⟨A7.part hS hm (fun id q=>hi id (by simp [L1,q])) h.1.1,h.1.2⟩,C7.part (fun id q=>hi id (by simp [L1,q])) h.2⟩
theorem P1.part {v:Vl} {u:Value} (hi:∀ id∈Wz v,id∈m) (h:P1 s g w v u):P1 s' g' w v u:=by
 cases v with
 | lf l=>exact ⟨A7.part hS hm (fun id q=>hi id (by simp [Wz,Vl.ls,L1,q])) h.1,h.2⟩
 | ag ls=>
  obtain ⟨cs,e,hL⟩:=h
  exact ⟨cs,e,C7.part hS hm hi hL⟩
theorem Jn.part {v:AV} {u:Value} (hi:∀ id∈Fs v,id∈m) (h:Jn s g w v u):Jn s' g' w v u:=by
 cases v with
 | dead=>trivial
 | vl v=>exact P1.part hS hm hi h
 | tp vs=>
  obtain ⟨us,h1,h2,h3⟩:=h
  refine ⟨us,h1,h2,fun j l hl=>?_⟩
  obtain ⟨v,e1,e2⟩:=h3 j l hl
  refine ⟨v,e1,P1.part hS hm (fun id q=>hi id ?_) e2⟩
  have hmem:=List.mem_of_getElem? hl
  clear h1 h2 h3 hl e1 e2 hi
  induction vs with
  | nil=>cases hmem
  | cons x r ih=>
   rcases List.mem_cons.1 hmem with rfl | hmem
   ·simp [Fs,Vt,q]
   ·have:=ih hmem
    simp only [Fs,Vt,List.mem_append] at this ⊢
    exact .inr this
 | fn f ls=>
  obtain ⟨cs,h1,h2⟩:=h
  exact ⟨cs,h1,C7.part hS hm hi h2⟩
theorem D1.part {id:Nat} (hid:id∈m) {r:Dj} (hi:∀ j∈L2 r,j∈m) (hwk:∀ j∈T7 r,j∈m) (hn:r.nst=true→g'.inn id=g.inn id) (h:D1 s g w id r):D1 s' g' w id r:=by
 obtain ⟨e1,e2,e3⟩:=hm id hid
 cases r with
 | unborn=>exact e2.trans h
 | dead=>exact e2.trans h
 | box T ls=>
  obtain ⟨b,cs,h1,h2,h3⟩:=h
  exact ⟨b,cs,e2.trans h1,h2,C7.part hS hm hi h3⟩
 | row e t xs=>
  obtain ⟨cs,h1,h2,h3⟩:=h
  exact ⟨cs,by rw [e3]; exact h1,h2.imp hS,by rw [e2,e3]; exact h3⟩
 | frozen t xs=>
  obtain ⟨h1,h2⟩:=h
  exact ⟨by rw [e3]; exact Ty.K_keep (fun b hb hl=>⟨hS b hb hl,rfl⟩) h1,e2.trans h2⟩
 | last e t xs c j=>
  obtain ⟨cs,h1,h2,h3,h4⟩:=h
  obtain ⟨q1,q2,q3⟩:=hm j (hwk j (by simp [T7]))
  refine ⟨cs,by rw [e3]; exact h1,by rw [hn rfl]; exact h2.keep (fun b hb hl=>⟨hS b hb hl,rfl⟩) (fun _ _=>rfl),by rw [e2,e3]; exact h3,fun u hc hu=>?_⟩
  rw [q1,q3]
  exact h4 u hc hu
 | mid e t xs i j=>
  obtain ⟨cs,h1,h2,h3,h4⟩:=h
  obtain ⟨q1,q2,q3⟩:=hm j (hwk j (by simp [T7]))
  refine ⟨cs,by rw [e3]; exact h1,by rw [hn rfl]; exact h2.keep (fun b hb hl=>⟨hS b hb hl,rfl⟩) (fun _ _=>rfl),by rw [e2,e3]; exact h3,fun u hu=>?_⟩
  rw [q1,q3]
  exact h4 u hu
 | map t xs=>
  obtain ⟨b,es,clock,h1,h2,h3⟩:=h
  exact ⟨b,es,clock,e2.trans h1,e3.trans h2,h3⟩
 | iter t xs seen cur=>
  obtain ⟨b,r,es,clock,since,c0,sn,h1,h2,h3,h4,h5,h6⟩:=h
  exact ⟨b,r,es,clock,since,c0,sn,e2.trans h1,e3.trans h2,h3,hS b h4 h5,h5,h6⟩
end
theorem W1 {i id:Nat}:∀ {l:List Nat},i∈l→id∈T7 (s.res i)→id∈Qc s l
 | j::r,h,q=>by
  rcases List.mem_cons.1 h with rfl | h
  ·exact List.mem_append_left _ q
  ·exact List.mem_append_right _ (W1 h q)
def Gh.view (s:St) (g:Gh) (ids:List Nat):Gh:=⟨fun id=>if Ec ids id then g.blk id else none,g.hdr,fun b=>g.av b∨(∃ id,id ∉ ids∧g.blk id=some b)∨∃ id,id ∉ ids∧(s.res id).nst=true∧g.inn id b,g.innL⟩
def Gh.ownL (g:Gh) (s:St) (ids:List Nat):List Nat:=ids.filterMap g.blk++ids.flatMap fun id=>bif (s.res id).nst then g.innL id else []
theorem K1 {ids:List Nat} {b:Nat}:b∈g.ownL s ids↔(∃ id∈ids,g.blk id=some b)∨∃ id∈ids,(s.res id).nst=true∧g.inn id b:=by
 unfold Gh.ownL
 rw [List.mem_append,List.mem_filterMap,List.mem_flatMap]
 refine or_congr Iff.rfl ⟨fun ⟨id,h1,h2⟩=>?_,fun ⟨id,h1,h2,h3⟩=>⟨id,h1,by rw [h2]; exact h3⟩⟩
 cases hn:(s.res id).nst with
 | false=>rw [hn] at h2; cases h2
 | true=>rw [hn] at h2; exact ⟨id,h1,hn,h2⟩
theorem Pu {i id:Nat}:∀ {sl:List Nat},i∈sl→id∈Fs (s.cell i)→id∈Ds s sl
 | j::r,h,q=>by
  rcases List.mem_cons.1 h with rfl | h
  ·exact List.mem_append_left _ q
  ·exact List.mem_append_right _ (Pu h q)
theorem T8 {i id:Nat}:∀ {l:List Nat},i∈l→id∈L2 (s.res i)→id∈Ed s l
 | j::r,h,q=>by
  rcases List.mem_cons.1 h with rfl | h
  ·exact List.mem_append_left _ q
  ·exact List.mem_append_right _ (T8 h q)
theorem W2 {sl ids:List Nat} {id:Nat} (h:((s.view sl ids).res id).nst=true):(s.res id).nst=true∧id∈ids:=by
 have h:(if Ec ids id then s.res id else .unborn:Dj).nst=true:=h
 split at h
 ·rename_i hid
  exact ⟨h,Bh.1 hid⟩
 ·cases h
theorem Aet {sl ids:List Nat} (b:Nat) (hb:By s g b) (hres:∀ id,D1 s g w id (s.res id)):By (s.view sl ids) (g.view s ids) b:=by
 refine ⟨?_,fun id hl hk=>?_,fun id hn hi=>?_⟩
 ·rintro (q | ⟨id,q1,q2⟩ | ⟨id,q1,q2,q3⟩)
  ·exact hb.1 q
  ·exact hb.2.1 id (Nu hres q2) q2
  ·exact hb.2.2 id q2 q3
 ·simp only [Gh.view] at hk
  split at hk
  ·rename_i hid
   exact hb.2.1 id (Nu hres hk) hk
  ·cases hk
 ·exact hb.2.2 id (W2 hn).1 hi
theorem Aeu (h:As n B Iq s g a w) {sl ids:List Nat} (hc:∀ i∈sl,∀ id∈Fs (s.cell i),id∈ids) (hr:∀ i∈ids,∀ id∈L2 (s.res i),id∈ids) (hw:∀ i∈ids,∀ id∈T7 (s.res i),id∈ids):
  As n w.heap.size (g.ownL s ids) (s.view sl ids) (g.view s ids) a w:=by
 have hS:∀ b,By s g b→b < w.heap.size→By (s.view sl ids) (g.view s ids) b:=fun b hb _=>Aet b hb h.res
 have hm:∀ id∈ids,(s.view sl ids).res id=s.res id∧(g.view s ids).blk id=g.blk id∧(g.view s ids).hdr id=g.hdr id:=by
  intro id hid
  have:=Bh.2 hid
  refine ⟨?_,?_,rfl⟩
  ·simp [St.view,this]
  ·simp [Gh.view,this]
 refine ⟨h.size,h.defers,Nat.le_refl _,fun i=>?_,fun id=>?_,fun id id' b q1 q2=>?_,fun id b q=>?_,fun b q=>?_,fun id b q1 q2=>?_⟩
 ·show Jn _ _ _ (if Ec sl i then s.cell i else .dead) _
  split
  ·rename_i hi
   exact Jn.part hS hm (hc i (Bh.1 hi)) (h.cell i)
  ·trivial
 ·by_cases hid:id∈ids
  ·rw [(hm id hid).1]
   exact D1.part hS hm hid (hr id hid) (hw id hid) (fun _=>rfl) (h.res id)
  ·have hf:Ec ids id=false:=by
    cases hq:Ec ids id
    ·rfl
    ·exact absurd (Bh.1 hq) hid
   have:(s.view sl ids).res id=.unborn:=by simp [St.view,hf]
   rw [this]
   show (g.view s ids).blk id=none
   simp [Gh.view,hf]
 ·simp only [Gh.view] at q1 q2
  split at q1
  ·split at q2
   ·exact h.inj id id' b q1 q2
   ·cases q2
  ·cases q1
 ·simp only [Gh.view] at q
  split at q
  ·rename_i hid
   have hid:=Bh.1 hid
   refine ⟨(h.lt id b q).1,.inl (K1.2 (.inl ⟨id,hid,q⟩)),?_⟩
   rintro (q2 | ⟨j,q2,q3⟩ | ⟨j,q2,q3,q4⟩)
   ·exact (h.lt id b q).2.2 q2
   ·exact q2 (by rw [h.inj j id b q3 q]; exact hid)
   ·exact (h.inn j b q3 q4).2.1 id q
  ·cases q
 ·rcases q with q | ⟨id,q1,q2⟩ | ⟨id,q1,q2,q3⟩
  ·have:=h.avB b q
   have:=h.base
   omega
  ·exact (h.lt id b q2).1
  ·exact (h.inn id b q2 q3).1.1
 ·obtain ⟨k1,k2⟩:=W2 q1
  obtain ⟨⟨p1,p2,p3⟩,p4,p5⟩:=h.inn id b k1 q2
  refine ⟨⟨p1,.inl (K1.2 (.inr ⟨id,k2,k1,q2⟩)),?_⟩,fun id' hb=>?_,fun id' hne hn hi=>p5 id' hne (W2 hn).1 hi⟩
  ·rintro (z | ⟨j,z1,z2⟩ | ⟨j,z1,z2,z3⟩)
   ·exact p3 z
   ·exact p4 j z2
   ·exact p5 j (fun e=>z1 (by rw [e]; exact k2)) z2 z3
  ·simp only [Gh.view] at hb
   split at hb
   ·exact p4 id' hb
   ·cases hb
theorem q7 {l m:List Nat} (h:Rl (Ed s l) m=true):∀ i∈l,∀ id∈L2 (s.res i),id∈m:=
 fun i hi id hid=>S4.1 h id (T8 hi hid)
theorem T9 {sl:List Nat}:∀ i∈sl,∀ id∈Fs (s.cell i),id∈Rk s sl:=
 fun i hi id hid=>List.mem_append_left _ (List.mem_append_left _ (Pu hi hid))
theorem Qd {nid:Nat} (h:Gn s nid W0=true):∀ id∈Fl nid,s.res id=.unborn:=by
 intro id hid
 have:nid≤id∧id < nid + 4:=by
  simp only [Fl,List.mem_cons,List.not_mem_nil,or_false] at hid
  omega
 exact Wl h id this.1 this.2
theorem Ah1 (h:As n B Iq s g a w) {sl ids:List Nat} {nid:Nat} {v':St} {gv':Gh} {w':World} {av:AV} (hfr:∀ id∈Fl nid,s.res id=.unborn)
  (hgo:Go w.heap.size (g.ownL s ids) (s.view sl ids) (g.view s ids) w v' gv' w') (hR:As n w.heap.size (g.ownL s ids) v' gv' a w')
  (hav:∀ id∈Fs av,id∈ids++Fl nid) (hres:∀ i∈ids++Fl nid,∀ id∈L2 (v'.res i),id∈ids++Fl nid) (hwk:∀ i∈ids++Fl nid,∀ id∈T7 (v'.res i),id∈ids++Fl nid):
  ∃ g',Go B Iq s g w (s.lay v' (ids++Fl nid)) g' w'∧As n B Iq (s.lay v' (ids++Fl nid)) g' a w'∧∀ u,Jn v' gv' w' av u→Jn (s.lay v' (ids++Fl nid)) g' w' av u:=by
 generalize hm:ids++Fl nid=m at hav hres hwk ⊢
 have hidm:∀ id∈ids,id∈m:=fun id q=>by rw [← hm]; exact List.mem_append_left _ q
 have hmem:∀ id∈m,id∈ids∨id∈Fl nid:=fun id q=>by rw [← hm] at q; exact List.mem_append.1 q
 have hin:∀ id,Ec m id=true↔id∈m:=fun id=>Bh
 have hout:∀ {id},id ∉ m→Ec m id=false:=fun {id} q=>by
  cases hq:Ec m id
  ·rfl
  ·exact absurd ((hin id).1 hq) q
 refine ⟨⟨fun id=>if Ec m id then gv'.blk id else g.blk id,fun id=>if Ec m id then gv'.hdr id else g.hdr id,g.av,fun id=>if Ec m id then gv'.innL id else g.innL id⟩,?_⟩
 generalize hg':(⟨fun id=>if Ec m id then gv'.blk id else g.blk id,fun id=>if Ec m id then gv'.hdr id else g.hdr id,g.av,fun id=>if Ec m id then gv'.innL id else g.innL id⟩:Gh)=g'
 generalize hs':s.lay v' m=s'
 have e1:∀ id∈m,s'.res id=v'.res id∧g'.blk id=gv'.blk id∧g'.hdr id=gv'.hdr id:=by
  intro id hid
  have:=(hin id).2 hid
  subst hs' hg'
  simp [St.lay,this]
 have e2:∀ id,id ∉ m→s'.res id=s.res id∧g'.blk id=g.blk id∧g'.hdr id=g.hdr id:=by
  intro id hid
  have:=hout hid
  subst hs' hg'
  simp [St.lay,this]
 have n1:∀ id∈m,g'.inn id=gv'.inn id:=fun id hid=>by
  have:=(hin id).2 hid
  subst hg'
  funext b
  simp [Gh.inn,this]
 have n2:∀ id,id ∉ m→g'.inn id=g.inn id:=fun id hid=>by
  have:=hout hid
  subst hg'
  funext b
  simp [Gh.inn,this]
 have ecell:s'.cell=s.cell:=by subst hs'; rfl
 have eav:g'.av=g.av:=by subst hg'; rfl
 have eavv:gv'.av=(g.view s ids).av:=hgo.av
 have liveBlk:∀ id b,g.blk id=some b→(s.res id).live=true:=fun id b q=>Nu h.res q
 have hS2:∀ b,By v' gv' b→b < w'.heap.size→By s' g' b:=by
  rintro b ⟨q1,q2⟩ _
  rw [eavv] at q1
  refine ⟨by rw [eav]; exact fun q=>q1 (.inl q),fun id hl hk=>?_,fun id hn hi=>?_⟩
  ·by_cases hid:id∈m
   ·obtain ⟨a1,a2,a3⟩:=e1 id hid
    rw [a1] at hl
    rw [a2] at hk
    exact q2.1 id hl hk
   ·obtain ⟨a1,a2,a3⟩:=e2 id hid
    rw [a2] at hk
    exact q1 (.inr (.inl ⟨id,fun q=>hid (hidm id q),hk⟩))
  ·by_cases hid:id∈m
   ·rw [(e1 id hid).1] at hn
    rw [n1 id hid] at hi
    exact q2.2 id hn hi
   ·rw [(e2 id hid).1] at hn
    rw [n2 id hid] at hi
    exact q1 (.inr (.inr ⟨id,fun q=>hid (hidm id q),hn,hi⟩))
 have hS:∀ b,By s g b→b < w.heap.size→By s' g' b∧w'.heap[b]? = w.heap[b]? := by
  intro b hb hlt
  obtain ⟨k1,k2⟩:=hgo.S b (Aet b hb h.res) hlt
  exact ⟨hS2 b k1 (Nat.lt_of_lt_of_le hlt hgo.kp.size),k2⟩
 have hI:∀ id,Ag s g s' g' id:=by
  intro id
  by_cases hid:id∈m
  ·obtain ⟨a1,a2,a3⟩:=e1 id hid
   rcases hmem id hid with q | q
   ·have r:=hgo.ref id
    unfold Ag at r ⊢
    have hq:=Bh.2 q
    have v1:(s.view sl ids).res id=s.res id:=by simp [St.view,hq]
    have v2:(g.view s ids).blk id=g.blk id:=by simp [Gh.view,hq]
    rw [v1,v2] at r
    rw [a1,a2,a3]
    exact r
   ·unfold Ag
    rw [hfr id q]
    exact .inr trivial
  ·obtain ⟨a1,a2,a3⟩:=e2 id hid
   exact Ag.same a1 a2 a3
 have hKp:Kp B Iq w w':=⟨hgo.kp.os,hgo.kp.tape,hgo.kp.output,hgo.kp.size,fun k hk hkI=>by
  refine hgo.kp.block k (Nat.lt_of_lt_of_le hk h.base) (fun q=>?_)
  have:k∈Iq∨B≤k:=by
   rcases K1.1 q with ⟨id,q1,q2⟩ | ⟨id,q1,q2,q3⟩
   ·exact (h.lt id k q2).2.1
   ·exact (h.inn id k q2 q3).1.2.1
  rcases this with q3 | q3
  ·exact hkI q3
  ·omega⟩
 have hlow:∀ b,(b∈g.ownL s ids∨w.heap.size≤b)→b∈Iq∨B≤b:=fun b q=>by
  rcases q with q | q
  ·rcases K1.1 q with ⟨id,q1,q2⟩ | ⟨id,q1,q2,q3⟩
   ·exact (h.lt id b q2).2.1
   ·exact (h.inn id b q2 q3).1.2.1
  ·exact .inr (Nat.le_trans h.base q)
 refine ⟨⟨hKp,hS,hI,eav⟩,?_,fun u hu=>Jn.part hS2 e1 hav hu⟩
 refine h.step h.size h.defers hgo.kp.size hS hI (fun i=>.inl ⟨by rw [ecell],rfl⟩) (fun j=>?_) (fun i j b hi hj=>?_) (fun i b hi=>?_) eav ⟨fun id h1 h2=>?_,fun id b h1 h2=>?_⟩
 ·by_cases hj:j∈m
  ·right
   rw [(e1 j hj).1]
   exact D1.part hS2 e1 hj (hres j hj) (hwk j hj) (fun _=>n1 j hj) (hR.res j)
  ·left
   obtain ⟨a1,a2,a3⟩:=e2 j hj
   refine ⟨a1,a2,a3,fun b hb=>hgo.kp.block b (h.lt j b hb).1 (fun q=>?_)⟩
   rcases K1.1 q with ⟨id,q1,q2⟩ | ⟨id,q1,q2,q3⟩
   ·exact hj (by rw [h.inj j id b hb q2]; exact hidm id q1)
   ·exact (h.inn id b q2 q3).2.1 j hb
 ·have far:∀ i j b,i∈m→g'.blk i=some b→j ∉ m→g'.blk j=some b→False:=by
   intro i j b him hi hjm hj
   rw [(e1 i him).2.1] at hi
   rw [(e2 j hjm).2.1] at hj
   refine (hR.lt i b hi).2.2 ?_
   rw [eavv]
   exact .inr (.inl ⟨j,fun q=>hjm (hidm j q),hj⟩)
  by_cases him:i∈m<;>by_cases hjm:j∈m
  ·rw [(e1 i him).2.1] at hi
   rw [(e1 j hjm).2.1] at hj
   exact hR.inj i j b hi hj
  ·exact (far i j b him hi hjm hj).elim
  ·exact (far j i b hjm hj him hi).elim
  ·rw [(e2 i him).2.1] at hi
   rw [(e2 j hjm).2.1] at hj
   exact h.inj i j b hi hj
 ·by_cases him:i∈m
  ·rw [(e1 i him).2.1] at hi
   obtain ⟨k1,k2,k3⟩:=hR.lt i b hi
   rw [eavv] at k3
   refine ⟨k1,?_,fun q=>k3 (.inl q)⟩
   exact hlow b k2
  ·rw [(e2 i him).2.1] at hi
   obtain ⟨k1,k2⟩:=h.lt i b hi
   exact ⟨Nat.lt_of_lt_of_le k1 hgo.kp.size,k2⟩
 ·by_cases hid:id∈m
  ·right
   rw [(e1 id hid).1]
   exact D1.part hS2 e1 hid (hres id hid) (hwk id hid) (fun _=>n1 id hid) (hR.res id)
  ·left
   refine ⟨n2 id hid,fun b hb=>?_⟩
   obtain ⟨⟨p1,p2,p3⟩,p4,p5⟩:=h.inn id b h2 hb
   refine hgo.kp.block b p1 fun q=>?_
   rcases K1.1 q with ⟨j,q1,q2⟩ | ⟨j,q1,q2,q3⟩
   ·exact p4 j q2
   ·exact p5 j (fun e=>hid (by rw [← e]; exact hidm j q1)) q2 q3
 ·by_cases hid:id∈m
  ·rw [(e1 id hid).1] at h1
   rw [n1 id hid] at h2
   obtain ⟨⟨p1,p2,p3⟩,p4,p5⟩:=hR.inn id b h1 h2
   rw [eavv] at p3
   refine ⟨⟨p1,hlow b p2,fun q=>p3 (.inl q)⟩,fun id' hb=>?_,fun id' hne hn hi=>?_⟩
   ·by_cases hid':id'∈m
    ·rw [(e1 id' hid').2.1] at hb; exact p4 id' hb
    ·rw [(e2 id' hid').2.1] at hb; exact p3 (.inr (.inl ⟨id',fun q=>hid' (hidm id' q),hb⟩))
   ·by_cases hid':id'∈m
    ·rw [(e1 id' hid').1] at hn; rw [n1 id' hid'] at hi; exact p5 id' hne hn hi
    ·rw [(e2 id' hid').1] at hn; rw [n2 id' hid'] at hi; exact p3 (.inr (.inr ⟨id',fun q=>hid' (hidm id' q),hn,hi⟩))
  ·rw [(e2 id hid).1] at h1
   rw [n2 id hid] at h2
   obtain ⟨⟨p1,p2,p3⟩,p4,p5⟩:=h.inn id b h1 h2
   refine ⟨⟨Nat.lt_of_lt_of_le p1 hgo.kp.size,p2,p3⟩,fun id' hb=>?_,fun id' hne hn hi=>?_⟩
   ·by_cases hid':id'∈m
    ·rw [(e1 id' hid').2.1] at hb
     have:=(hR.lt id' b hb).2.2
     rw [eavv] at this
     exact this (.inr (.inr ⟨id,fun q=>hid (hidm id q),h1,h2⟩))
    ·rw [(e2 id' hid').2.1] at hb; exact p4 id' hb
   ·by_cases hid':id'∈m
    ·rw [(e1 id' hid').1] at hn
     rw [n1 id' hid'] at hi
     have:=(hR.inn id' b hn hi).1.2.2
     rw [eavv] at this
     exact this (.inr (.inr ⟨id,fun q=>hid (hidm id q),h1,h2⟩))
    ·rw [(e2 id' hid').1] at hn; rw [n2 id' hid'] at hi; exact p5 id' hne hn hi
theorem Ze {o:Oper} {m:List Nat} (h:Ig o s m=true):(∀ i∈m,∀ id∈L2 (s.res i),id∈m)∧(Ft o=false→∀ i∈m,∀ id∈T7 (s.res i),id∈m):=by
 simp only [Ig,Bool.and_eq_true,Bool.or_eq_true] at h
 refine ⟨q7 h.1,fun hl i hi id hid=>?_⟩
 rcases h.2 with q | q
 ·rw [hl] at q; cases q
 ·exact S4.1 q id (W1 hi hid)
theorem W3 {o:Oper} (hm:Ys o=false):∀ i∈B2 o,∀ id∈Fs (s.cell i),id∈Iv s o:=fun i hi id hid=>by
 unfold Iv
 rw [hm]
 simp only [Bool.false_eq_true,if_false]
 split
 ·exact T9 i hi id hid
 ·exact List.mem_append_left _ (T9 i hi id hid)
section
variable {s t:St}
theorem Rm {x:Operand} (h:∀ i∈E1 [x],s.cell i=t.cell i):s.op x=t.op x:=by
 cases x with
 | tmp i=>exact h i (by simp [E1])
 | const v=>rfl
 | global _=>rfl
 | func _=>rfl
theorem Zf {x:Operand} (h:s.op x=t.op x):s.leaf x=t.leaf x:=by unfold St.leaf; rw [h]
theorem S5 {x:Operand} (h:s.op x=t.op x):s.conc x=t.conc x:=by unfold St.conc; rw [h]
theorem q8 {x:Operand} {id:Nat} (h:s.leaf x=some (.row id)):∃ i∈E1 [x],id∈Fs (s.cell i):=by
 cases x with
 | tmp i=>
  refine ⟨i,by simp [E1],?_⟩
  unfold St.leaf at h
  simp only [St.op] at h
  split at h
  ·rename_i l hl
   cases h
   rw [hl]
   simp [Fs,Wz,Vl.ls,L1,Qb]
  ·cases h
 | const v=>
  unfold St.leaf at h
  simp only [St.op] at h
  split at h
  ·rename_i l hl
   cases h
   unfold Ve at hl
   split at hl
   ·split at hl<;>cases hl
   ·cases hl
   ·cases hl
  ·cases h
 | global _=>cases h
 | func _=>cases h
theorem Rn {x:Operand} (h:s.leaf x=t.leaf x) (hr:∀ id,s.leaf x=some (.row id)→s.res id=t.res id):Ov s x=Ov t x:=by
 unfold Ov
 rw [← h]
 split
 ·rename_i id hl
  rw [hr id hl]
 ·rfl
theorem Abu {x:Operand} (h:s.leaf x=t.leaf x) (hr:∀ id,s.leaf x=some (.row id)→s.res id=t.res id):(s.leaf x).bind s.sl=(t.leaf x).bind t.sl:=by
 rw [← h]
 cases hl:s.leaf x with
 | none=>rfl
 | some l=>
  cases l with
  | row id=>simp only [Option.bind_some,St.sl]; rw [hr id hl]
  | _=>rfl
theorem Yt {T:TypeId} {x y:Operand} (h:s.leaf x=t.leaf x) (hr:∀ id,s.leaf x=some (.row id)→s.res id=t.res id) (hy:s.conc y=t.conc y):Kx P s T x y=Kx P t T x y:=by
 unfold Kx
 rw [← h,← hy]
 split
 ·split
  ·rename_i id _ _ _ hl _
   rw [hr _ hl]
  ·rfl
 ·rfl
theorem q9 {T:TypeId} {x:Operand} (h:s.leaf x=t.leaf x) (hr:∀ id,s.leaf x=some (.row id)→s.res id=t.res id):Ss P s T x=Ss P t T x:=by
 unfold Ss
 rw [← h]
 split
 ·split
  ·rename_i id hl
   rw [hr _ hl]
  ·rfl
 ·rfl
end
theorem Ro {s t:St} {T:TypeId} {x y:Operand} (h:s.leaf x=t.leaf x) (hr:∀ id,s.leaf x=some (.row id)→s.res id=t.res id) (hy:s.conc y=t.conc y):E0 P s T x y=E0 P t T x y:=by
 unfold E0
 rw [Abu h hr,hy]
theorem Aam {s t:St} {T:TypeId} {x:Operand} (h:s.leaf x=t.leaf x) (hr:∀ id,s.leaf x=some (.row id)→s.res id=t.res id) (hy:s.conc x=t.conc x):Y2 P s T x=Y2 P t T x:=by
 unfold Y2
 rw [Abu h hr,hy]
theorem s4 {s t:St} {X:Option (List Bool×Lf)} {av:AV} {v':St} (e:En (lfC t X)=some (av,v')):v'=t∧En (lfC s X)=some (av,s):=by
 cases X with
 | none=>cases e
 | some p=>
  simp only [lfC,En] at e ⊢
  split at e<;>cases e
  rename_i hq
  exact ⟨rfl,by rw [if_pos hq]⟩
theorem Vu {s t:St} {X:Option Value} {av:AV} {v':St} (e:En (v0 t X)=some (av,v')):v'=t∧En (v0 s X)=some (av,s):=by
 cases X with
 | none=>cases e
 | some p=>
  simp only [v0,En] at e ⊢
  split at e<;>cases e
  rename_i hq
  exact ⟨rfl,by rw [if_pos hq]⟩
theorem Rp {s t:St}:∀ {l:List Operand},(∀ y∈l,s.conc y=t.conc y)→Lq s l=Lq t l
 | [],_=>rfl
 | y::r,h=>by
  simp only [Lq]
  rw [h y (by simp),Rp (fun z hz=>h z (by simp [hz]))]
theorem Yu {s t:St} {T:TypeId} {x:Operand} (h:s.leaf x=t.leaf x) (hr:∀ id,s.leaf x=some (.row id)→s.res id=t.res id):Kz P s T x=Kz P t T x:=by
 unfold Kz
 rw [← h]
 split
 ·rename_i hl
  rw [hr _ hl]
 ·rfl
theorem Aan {sigs:Tb} {nid:Nat} {o:Oper} {t v':St} {av:AV} (hl:Ft o=true) (hc:∀ i∈B2 o,t.cell i=s.cell i) (hr:Ys o=false→∀ i∈B2 o,∀ id∈Fs (t.cell i),t.res id=s.res id)
  (e:Iu P sigs t nid o=some (av,v')):v'=t∧Iu P sigs s nid o=some (av,s):=by
 obtain ⟨dst,op,type,pos,after,guard⟩:=o
 cases op<;>simp only [Ft] at hl<;>first | (cases hl; done) | skip
 case move x=>
  have hx:t.op x=s.op x:=Rm (fun i hi=>hc i (by simpa [B2,Op.operands] using hi))
  simp only [Bool.not_eq_true'] at hl
  have hN:∀ t:St,It sigs.nest P t nid ⟨dst,.move x,type,pos,after,guard⟩=Gf P t nid ⟨dst,.move x,type,pos,after,guard⟩:=fun t=>Fi fun _=>rfl
  simp only [Iu,Fr,Ri,hN] at e ⊢
  simp only [Gf,Np,hl,avS,En,Hm] at e ⊢
  cases e
  exact ⟨rfl,by rw [hx]; rfl⟩
 case assign x=>
  have hx:t.op x=s.op x:=Rm (fun i hi=>hc i (by simpa [B2,Op.operands] using hi))
  simp only [Bool.not_eq_true'] at hl
  have hN:∀ t:St,It sigs.nest P t nid ⟨dst,.assign x,type,pos,after,guard⟩=Gf P t nid ⟨dst,.assign x,type,pos,after,guard⟩:=fun t=>Fi fun _=>rfl
  simp only [Iu,Fr,Ri,hN] at e ⊢
  simp only [Gf,Np,hl,avS,En,Hm] at e ⊢
  cases e
  exact ⟨rfl,by rw [hx]; rfl⟩
 case indexAddr T x y=>
  have hs1:E1 [x] ⊆ B2 ⟨dst,.indexAddr T x y,type,pos,after,guard⟩:=fun i hi=>by
   cases x<;>simp [E1,B2,Op.operands] at hi ⊢
   exact .inl hi
  have hs2:E1 [y] ⊆ B2 ⟨dst,.indexAddr T x y,type,pos,after,guard⟩:=fun i hi=>by
   cases x<;>cases y<;>simp [E1,B2,Op.operands] at hi ⊢<;>first | exact hi | exact .inr hi
  have hx:=Zf (Rm (s:=t) (t:=s) (x:=x) (fun i hi=>hc i (hs1 hi)))
  have hy:=S5 (Rm (s:=t) (t:=s) (x:=y) (fun i hi=>hc i (hs2 hi)))
  have hrr:∀ id,t.leaf x=some (.row id)→t.res id=s.res id:=fun id hid=>by
   obtain ⟨i,h1,h2⟩:=q8 hid
   exact hr rfl i (hs1 h1) id h2
  have hN:∀ t:St,It sigs.nest P t nid ⟨dst,.indexAddr T x y,type,pos,after,guard⟩=Gf P t nid ⟨dst,.indexAddr T x y,type,pos,after,guard⟩:=fun t=>Fi fun _=>rfl
  simp only [Iu,Fr,Ri,hN] at e ⊢
  simp only [Gf] at e ⊢
  rw [Rn hx hrr,Yt hx hrr hy,Ro hx hrr hy] at e
  split at e
  ·rename_i hq
   rw [if_pos hq]
   exact s4 e
  ·rename_i hq
   rw [if_neg hq]
   exact s4 e
 case call c=>
  obtain ⟨callee,args,argTypes⟩:=c
  have hcal:callee=.builtin .len:=by
   split at hl
   ·rename_i hq; exact hq
   ·cases hl
  subst hcal
  have hN:∀ t:St,It sigs.nest P t nid ⟨dst,.call ⟨.builtin .len,args,argTypes⟩,type,pos,after,guard⟩=Gf P t nid ⟨dst,.call ⟨.builtin .len,args,argTypes⟩,type,pos,after,guard⟩:=fun t=>Fi fun _=>rfl
  simp only [Iu,Fr,Ri,hN] at e ⊢
  simp only [Gf] at e ⊢
  split at e
  ·rename_i x T ha ht
   have ha':args=#[x]:=by apply Array.toList_inj.1; simpa using ha
   subst ha'
   have hs1:E1 [x] ⊆ B2 ⟨dst,.call ⟨.builtin .len,#[x],argTypes⟩,type,pos,after,guard⟩:=fun i hi=>by
    cases x<;>simp [E1,B2,Op.operands,Call.operands] at hi ⊢
    exact hi
   have hop:=Rm (s:=t) (t:=s) (x:=x) (fun i hi=>hc i (hs1 hi))
   have hx:=Zf hop
   have hrr:∀ id,t.leaf x=some (.row id)→t.res id=s.res id:=fun id hid=>by
    obtain ⟨i,h1,h2⟩:=q8 hid
    exact hr rfl i (hs1 h1) id h2
   have hcc:Fb P t ⟨dst,.call ⟨.builtin .len,#[x],argTypes⟩,type,pos,after,guard⟩=Fb P s ⟨dst,.call ⟨.builtin .len,#[x],argTypes⟩,type,pos,after,guard⟩:=by
    have hcx:=S5 hop
    unfold Fb
    have e1:∀ y∈(Op.call ⟨.builtin .len,#[x],argTypes⟩).operands.toList,t.conc y=s.conc y:=fun y hy=>by
     simp [Op.operands,Call.operands] at hy
     rw [hy]; exact hcx
    rw [Rp e1]
    split
    ·have:execOp (fun x=>(t.conc x).getD undef) ⟨dst,.call ⟨.builtin .len,#[x],argTypes⟩,type,pos,after,guard⟩=execOp (fun x=>(s.conc x).getD undef) ⟨dst,.call ⟨.builtin .len,#[x],argTypes⟩,type,pos,after,guard⟩:=
      execOp_congr _ (fun cs b q=>by cases q) (fun y hy=>by show (t.conc y).getD undef=(s.conc y).getD undef; rw [e1 y (Array.mem_toList_iff.2 hy)])
     rw [this]
    ·rfl
   split at e
   ·rename_i hsl
    rw [if_pos hsl]
    rw [Rn hx hrr,q9 hx hrr,Aam hx hrr (S5 hop)] at e
    split at e
    ·rename_i hq
     rw [if_pos hq]
     exact Vu e
    ·rename_i hq
     rw [if_neg hq]
     exact Vu e
   ·rename_i hsl
    rw [if_neg hsl]
    rw [hcc,Yu hx hrr] at e
    split at e
    ·rename_i hq
     rw [if_pos hq]
     exact Vu e
    ·rename_i hq
     rw [if_neg hq]
     exact Vu e
  ·cases e
theorem Aev {sigs:Tb} (hs:Bd P sigs) (h:As n B Iq s g a w) {nid:Nat} {o:Oper} {av:AV} {v':St} (e:Pt P sigs s nid o=some (av,v')):
  E6 P n B Iq s g a w o av (if Ft o then s else s.lay v' (Iv s o++Fl nid)):=by
 unfold Pt at e
 dsimp only at e
 split at e
 ·rename_i hfr
  split at e
  ·rename_i hcl
   obtain ⟨p,e1,e⟩:=Al e
   split at e
   ·rename_i h1
    split at e<;>cases e
    rename_i h2
    cases hlt:Ft o with
    | true=>
     refine Nt hs.dr h (Aan (t:=s.view (B2 o) (Iv s o)) hlt (fun i hi=>?_) (fun hm i hi id hid=>?_) e1).2
     ·simp [St.view,Bh.2 hi]
     ·have:(s.view (B2 o) (Iv s o)).cell i=s.cell i:=by simp [St.view,Bh.2 hi]
      rw [this] at hid
      simp [St.view,Bh.2 (W3 hm i hi id hid)]
    | false=>
     have c1:=Ze hcl
     have c2:=Ze h2
     have hmv:Ys o=false:=by
      cases hq:Ys o with
      | false=>rfl
      | true=>rw [Aes hq] at hlt; cases hlt
     rw [hmv,Bool.false_or] at h1
     have hV:=Aeu h (sl:=B2 o) (ids:=Iv s o) (W3 hmv) c1.1 (c1.2 hlt)
     intro K Q hK
     refine Nt hs.dr hV e1 K Q fun v gv' w' k1 k2 k3=>?_
     obtain ⟨g',q1,q2,q3⟩:=Ah1 h (Qd hfr) k1 k2 (S4.1 h1) c2.1 (c2.2 hlt)
     exact hK v g' w' q1 q2 (q3 v k3)
   ·cases e
  ·cases e
 ·cases e
end
end
section
def Aao (s:St) (ops:Array Oper) (j:Nat):Option (Option Bool):=match ops[j]? with
 | some o=>match o.dst with
  | some d=>match s.cell d with
   | .vl (.lf (.c (.bool b)))=>some (some b)
   | .tp []=>some none
   | _=>none
  | none=>none
 | none=>none
def E9 (s:St) (ops:Array Oper) (o:Oper):Option Bool:=match o.guard with
 | none=>some true
 | some (j,want)=>match Aao s ops j with
  | some (some b)=>some (bif b then want else !want)
  | some none=>some false
  | none=>none
def Uo (P:Program) (o:Oper):Bool:=match o.op with
 | .move x=>!T4 x
 | .assign x=>!T4 x
 | .pick _ _ _=>true
 | .build _ _=>true
 | .load _ _=>true
 | .nilCheck _=>true
 | .binOp _ _ _ _ _=>true
 | .unOp _ _ _=>true
 | .convert _ U _=>!Zb P U
 | .slice T _ _ _ _=>Aek P T
 | .fieldAddr _ _ _=>true
 | .field _ _ _=>true
 | .indexAddr _ _ _=>true
 | .index _ _ _=>true
 | .extract _ _=>true
 | .call c=>match c.callee with
  | .builtin .len=>true
  | .builtin .min=>true
  | .builtin .max=>true
  | _=>false
 | _=>false
section
variable {P:Program} {n B:Nat} {Iq:List Nat} {s:St} {g:Gh} {a:Act} {w:World}
theorem Abv {nid:Nat} {o:Oper} {av:AV} {s':St} (hro:Uo P o=true) (e:En (Gf P s nid o)=some (av,s')):s'=s:=by
 obtain ⟨dst,op,type,pos,after,guard⟩:=o
 have v0':∀ {x:Option Value},En (v0 s x)=some (av,s')→s'=s:=fun e=>by obtain ⟨_,_,q⟩:=Lz e; cases q; rfl
 have vC':∀ {x:Option (List Bool×Value)},En (vC s x)=some (av,s')→s'=s:=fun e=>by obtain ⟨_,_,q⟩:=Qa e; cases q; rfl
 have vl':∀ {x:Option Vl},En (vl0 s x)=some (av,s')→s'=s:=fun e=>by obtain ⟨_,_,q⟩:=Vq e; cases q; rfl
 have av':∀ {x:Option AV},En (av0 s x)=some (av,s')→s'=s:=fun e=>by obtain ⟨_,_,q⟩:=Jy e; cases q; rfl
 have lf':∀ {x:Option (List Bool×Lf)},En (lfC s x)=some (av,s')→s'=s:=fun e=>by obtain ⟨_,_,q⟩:=Vp e; cases q; rfl
 cases op<;>simp only [Gf,Uo] at e hro<;>first | (cases hro; done) | skip
 case move x=>
  have:=Vr e
  unfold Np at this
  split at this
  ·rename_i h; rw [h] at hro; cases hro
  ·cases this; rfl
 case assign x=>
  have:=Vr e
  unfold Np at this
  split at this
  ·rename_i h; rw [h] at hro; cases hro
  ·cases this; rfl
 case pick=>exact av' e
 case build=>exact vl' e
 case load=>
  split at e
  ·exact lf' e
  ·exact vl' e
 case nilCheck=>exact av' e
 case binOp op T x y U=>
  split at e
  ·split at e
   ·exact vC' e
   ·exact v0' e
  ·exact vC' e
  ·exact vC' e
  ·exact vC' e
  ·split at e<;>exact v0' e
  ·split at e<;>exact v0' e
  ·exact v0' e
 case unOp=>exact v0' e
 case convert T U x=>
  split at e
  ·exact v0' e
  ·split at e
   ·rename_i q
    rw [q] at hro
    cases hro
   ·exact v0' e
 case slice=>
  rw [if_pos hro] at e
  exact vC' e
 case fieldAddr=>
  obtain ⟨l,s1,e1,e2⟩:=Fp e
  cases e2
  obtain ⟨l',e3,e4⟩:=Option.map_eq_some_iff.1 e1
  cases e4
  rfl
 case field=>exact vl' e
 case indexAddr=>split at e<;>exact lf' e
 case index=>exact vC' e
 case extract=>exact av' e
 case call c=>
  obtain ⟨callee,args,argTypes⟩:=c
  simp only at e hro
  split at hro
  ·simp only at e
   split at e
   ·split at e
    ·split at e<;>exact v0' e
    ·split at e<;>exact v0' e
   ·cases e
  ·exact v0' e
  ·exact v0' e
  ·cases hro
theorem Aew {m:Nm} {nid:Nat} {o:Oper} {av:AV} {s':St} (hro:Uo P o=true) (e:En (It m.less P s nid o)=some (av,s')):s'=s:=by
 have key:∀ {r:List Bool×AV×St},Ps false P s nid o=some r→En (some r)=some (av,s')→s'=s:=fun {r} h1 h2=>by
  obtain ⟨dst,op,type,pos,after,guard⟩:=o
  have h2:En (Ps false P s nid ⟨dst,op,type,pos,after,guard⟩)=some (av,s'):=by rw [h1]; exact h2
  cases op<;>simp only [Ps,Uo] at h2 hro<;>first | (cases hro; done) | (cases h2; done) | skip
  case fieldAddr=>
   obtain ⟨l,s1,e1,e2⟩:=Fp h2
   cases e2
   obtain ⟨l',e3,e4⟩:=Option.map_eq_some_iff.1 e1
   cases e4
   rfl
  case nilCheck=>
   obtain ⟨_,_,q⟩:=Jy h2
   cases q
   rfl
  case call c=>
   obtain ⟨callee,args,argTypes⟩:=c
   simp only at h2 hro
   split at h2
   ·cases hro
   ·cases h2
 have key2:En (It .some P s nid o)=some (av,s')→s'=s:=fun e=>by
  unfold It at e
  simp only at e
  split at e
  ·rename_i r hr
   exact key hr e
  ·exact Abv hro e
 cases m with
 | off=>exact Abv hro e
 | some=>exact key2 e
 | all=>exact key2 e
theorem Agl {o:Oper} (hro:Uo P o=true):Fr o=none:=by
 unfold Fr
 unfold Uo at hro
 split
 ·rename_i c hop
  rw [hop] at hro
  simp only at hro
  split
  ·rename_i f hf
   rw [hf] at hro
   cases hro
  ·rfl
 ·rfl
theorem Ah2 {o:Oper} (hro:Uo P o=true):Ri s o=none:=by
 unfold Ri
 unfold Uo at hro
 split
 ·rename_i c hop
  rw [hop] at hro
  simp only at hro
  split
  ·rename_i t hf
   rw [hf] at hro
   cases hro
  ·rfl
 ·rfl
theorem Aex (h:As n B Iq s g a w) {ops:Array Oper} {j:Nat} {r:Option Bool} (e:Aao s ops j=some r):yielded ops a.tmps j=r:=by
 unfold Aao at e
 unfold yielded
 split at e
 ·rename_i o ho
  split at e
  ·rename_i d hd
   have k:=h.cell d
   rw [ho]
   simp only [Option.bind_some,hd]
   split at e
   ·rename_i b hb
    cases e
    rw [hb] at k
    have k1:a.tmps.getD d undef=.bool b:=k.1
    rw [Array.getD_eq_getD_getElem?] at k1
    cases hq:a.tmps[d]? with
    | none=>rw [hq] at k1; simp [undef] at k1
    | some v=>rw [hq] at k1; simp at k1; rw [k1]
   ·rename_i hb
    cases e
    rw [hb] at k
    obtain ⟨us,hu,hsz,_⟩:=k
    have:us=#[]:=by apply Array.eq_empty_of_size_eq_zero; simpa using hsz
    subst this
    rw [Array.getD_eq_getD_getElem?] at hu
    cases hq:a.tmps[d]? with
    | none=>rfl
    | some v=>rw [hq] at hu; simp at hu; rw [hu]
   ·cases e
  ·cases e
 ·cases e
theorem Gq (h:As n B Iq s g a w) {ops:Array Oper} {o:Oper} {r:Bool} (e:E9 s ops o=some r):Region.wanted o (yielded ops a.tmps)=r:=by
 unfold E9 at e
 unfold Region.wanted
 split at e
 ·rename_i hg
  rw [hg]
  cases e
  rfl
 ·rename_i j want hg
  rw [hg]
  simp only
  split at e
  ·rename_i b hb
   rw [Aex h hb]
   cases e
   cases b<;>cases want<;>rfl
  ·rename_i hb
   rw [Aex h hb]
   cases e
   rfl
  ·cases e
end
end
section
structure G7 where
 o:Oper
 nid:Nat
 run:Bool
 ids:List Nat
 av:AV
 res:Nat→Dj
 wr:List Nat
def G7.quiet (P:Program) (e:G7):Bool:=!e.run || Uo P e.o
def G7.app (P:Program) (n:Nat) (e:G7) (s:St):St:=St.put n (if e.quiet P then s else ⟨s.cell,fun id=>if Ec e.wr id then e.res id else s.res id⟩) e.o.dst e.av
def s5 (ops:Array Oper) (o:Oper):List Nat:=match o.guard with
 | some (j,_)=>match ops[j]? with
  | some oj=>match oj.dst with
   | some d=>[d]
   | none=>[]
  | none=>[]
 | none=>[]
def G7.looks (ops:Array Oper) (e:G7):List Nat:=(if e.run then B2 e.o else [])++s5 ops e.o
def Aey:List Md→Bool
 | []=>true
 | .rd _::r=>Aey r
 | _=>false
def wrO (T:Tb) (v:St) (nid:Nat) (o:Oper) (m:List Nat):List Nat:=match o.op with
 | .store _ x _=>(match v.leaf x with
  | some (.ptr id _)=>if Ec m id then [id] else m
  | _=>m)
 | .call _=>(match Fr o with
  | some (f,_)=>(match T.sd f with
   | some sd=>if Aey sd.sg.ps&&(Da sd.sg.rs&&(E5 sd.sg.ps&&Nat.ble (C3 sd.sg.rs) 4)) then Fl nid else m
   | none=>m)
  | none=>m)
 | _=>m
def Nv (T:Tb) (s:St) (nid:Nat) (o:Oper) (av:AV) (v:St):G7:=⟨o,nid,true,Iv s o++Fl nid,av,v.res,wrO T (s.view (B2 o) (Iv s o)) nid o (Iv s o++Fl nid)⟩
def Rq (nid:Nat) (o:Oper):G7:=⟨o,nid,false,[],.tp [],fun _=>.unborn,[]⟩
def Ac3 (P:Program) (sigs:Tb) (ops:Array Oper) (s:St) (e:G7):Prop:=
 (E9 s ops e.o=some true∧∃ av v,Pt P sigs s e.nid e.o=some (av,v)∧e=Nv sigs s e.nid e.o av v)∨(E9 s ops e.o=some false∧e=Rq e.nid e.o)
def Qe (P:Program) (sigs:Tb) (ops:Array Oper) (n:Nat):List G7→St→Prop
 | [],_=>True
 | e::r,s=>Ac3 P sigs ops s e∧Qe P sigs ops n r (e.app P n s)
def L3 (P:Program) (n:Nat) (D:Nat→Bool):Nat→List G7→St→St
 | _,[],s=>s
 | i,e::r,s=>L3 P n D (i + 1) r (if D i then e.app P n s else s)
def h9 (o:Oper) (l:List Nat):Bool:=match o.dst with
 | some d=>Ec l d
 | none=>false
def Abw (o o':Oper):Bool:=match o.dst,o'.dst with
 | some d,some d'=>Nat.beq d d'
 | _,_=>false
def W4 (l m:List Nat):Bool:=match l with
 | []=>false
 | i::r=>Ec m i || W4 r m
def Fu (P:Program) (ops:Array Oper) (e f:G7):Bool:=
 !h9 e.o (f.looks ops)&&!h9 f.o (e.looks ops)&&!Abw e.o f.o&&((e.quiet P || !W4 e.wr f.ids)&&(f.quiet P || !W4 f.wr e.ids)&&(e.quiet P || f.quiet P || !W4 e.wr f.wr))
def J0 (o:Oper):List Nat:=(o.after.toList.filter fun e=>Region.binds .any e).map (·.on)
def Ua (ancs:List Nat):List Nat→Nat
 | []=>0
 | p::r=>((1 <<< p) ||| (ancs.getD p 0)) ||| Ua ancs r
def W5 (P:Program) (ops:Array Oper) (A:Nat) (e:G7):Nat→List G7→Bool
 | _,[]=>true
 | k,d::r=>(A.testBit k || Fu P ops d e)&&W5 P ops A e (k + 1) r
def s6 (i:Nat):List Nat→Bool
 | []=>true
 | p::r=>Nat.blt p i&&s6 i r
def Ac4 (P:Program) (ops:Array Oper):Nat→List G7→List Nat→List G7→Bool
 | _,_,_,[]=>true
 | i,done,ancs,e::r=>s6 i (J0 e.o)&&(W5 P ops (Ua ancs (J0 e.o)) e 0 done&&Ac4 P ops (i + 1) (done++[e]) (ancs++[Ua ancs (J0 e.o)]) r)
section
variable {P:Program} {n B:Nat} {Iq:List Nat} {sigs:Tb} {ops:Array Oper}
theorem S6 {l m:List Nat}:W4 l m=false↔∀ i∈l,i ∉ m:=by
 induction l with
 | nil=>simp [W4]
 | cons j r ih=>
  simp only [W4,Bool.or_eq_false_iff,ih,List.forall_mem_cons]
  constructor
  ·rintro ⟨h1,h2⟩
   exact ⟨fun q=>(by rw [Bh.2 q] at h1; cases h1),h2⟩
  ·rintro ⟨h1,h2⟩
   refine ⟨?_,h2⟩
   cases hq:Ec m j
   ·rfl
   ·exact absurd (Bh.1 hq) h1
theorem Zg {i:Nat} {l:List Nat}:s6 i l=true↔∀ p∈l,p < i:=by
 induction l with
 | nil=>simp [s6]
 | cons j r ih=>simp [s6,ih,Nat.blt_eq]
def Zh (P:Program) (ops:Array Oper) (e' e:G7):Prop:=(∀ d,e'.o.dst=some d→d ∉ e.looks ops)∧(e'.quiet P=false→∀ id∈e'.wr,id ∉ e.ids)
theorem Rr {o:Oper} {l:List Nat} (h:h9 o l=false):∀ d,o.dst=some d→d ∉ l:=by
 intro d hd q
 unfold h9 at h
 rw [hd] at h
 simp only at h
 rw [Bh.2 q] at h
 cases h
theorem Rs {e f:G7} (h:Fu P ops e f=true):Zh P ops e f∧Zh P ops f e:=by
 simp only [Fu,Bool.and_eq_true,Bool.not_eq_true',Bool.or_eq_true] at h
 obtain ⟨⟨⟨h1,h2⟩,h3⟩,⟨h4,h5⟩,_⟩:=h
 refine ⟨⟨Rr h1,fun q id hid=>?_⟩,⟨Rr h2,fun q id hid=>?_⟩⟩
 ·rcases h4 with h4 | h4
  ·rw [h4] at q; cases q
  ·exact S6.1 h4 id hid
 ·rcases h5 with h5 | h5
  ·rw [h5] at q; cases q
  ·exact S6.1 h5 id hid
theorem Aez (s:St) (d:Option Tmp) (av:AV) (x:Nat):(s.put n d av).cell x=if (d=some x∧Nat.blt x n=true) then av else s.cell x:=by
 cases d with
 | none=>simp [St.put]
 | some d=>
  unfold St.put
  simp only
  by_cases q:x=d
  ·subst q
   by_cases hn:Nat.blt x n=true
   ·simp [hn,St.setCell]
   ·simp [hn]
  ·have:¬ (some d=some x∧Nat.blt x n=true):=fun h=>q (Option.some.inj h.1).symm
   rw [if_neg this]
   split
   ·simp [St.setCell,Ae _ _ q]
   ·rfl
theorem Iw (e:G7) (s:St) (x:Nat):(e.app P n s).cell x=if (e.o.dst=some x∧Nat.blt x n=true) then e.av else s.cell x:=by
 unfold G7.app
 rw [Aez]
 split
 ·rfl
 ·split<;>rfl
theorem L4 (e:G7) (s:St) (id:Nat):(e.app P n s).res id=if e.quiet P=false∧id∈e.wr then e.res id else s.res id:=by
 unfold G7.app
 rw [Vs]
 by_cases q:e.quiet P=true
 ·simp [q]
 ·have q:e.quiet P=false:=by simpa using q
  simp only [q,Bool.false_eq_true,if_false,true_and]
  by_cases hm:id∈e.wr
  ·simp [hm,Bh.2 hm]
  ·have:Ec e.wr id=false:=by
    cases hq:Ec e.wr id
    ·rfl
    ·exact absurd (Bh.1 hq) hm
   simp [hm,this]
theorem St.ext' {s t:St} (h1:∀ i,s.cell i=t.cell i) (h2:∀ id,s.res id=t.res id):s=t:=by
 obtain ⟨c,r⟩:=s
 obtain ⟨c',r'⟩:=t
 congr
 ·exact funext h1
 ·exact funext h2
theorem Ae0 {e f:G7} (h:Fu P ops e f=true) (s:St):f.app P n (e.app P n s)=e.app P n (f.app P n s):=by
 have hd:∀ d,e.o.dst=some d→f.o.dst≠some d:=by
  intro d h1 h2
  simp only [Fu,Bool.and_eq_true,Bool.not_eq_true'] at h
  have:=h.1.2
  unfold Abw at this
  rw [h1,h2] at this
  simp at this
 have hr:∀ id,e.quiet P=false→id∈e.wr→¬ (f.quiet P=false∧id∈f.wr):=fun id q1 q2 q3=>by
  simp only [Fu,Bool.and_eq_true,Bool.not_eq_true',Bool.or_eq_true] at h
  rcases h.2.2 with (h4 | h4) | h4
  ·rw [h4] at q1; cases q1
  ·rw [h4] at q3; cases q3.1
  ·exact S6.1 h4 id q2 q3.2
 refine St.ext' (fun i=>?_) (fun id=>?_)
 ·rw [Iw,Iw,Iw,Iw]
  by_cases h1:e.o.dst=some i∧Nat.blt i n=true
  ·have h2:¬ (f.o.dst=some i∧Nat.blt i n=true):=fun q=>hd i h1.1 q.1
   rw [if_neg h2,if_pos h1,if_pos h1]
  ·rw [if_neg h1,if_neg h1]
 ·rw [L4,L4,L4,L4]
  by_cases h1:e.quiet P=false∧id∈e.wr
  ·rw [if_neg (hr id h1.1 h1.2),if_pos h1,if_pos h1]
  ·rw [if_neg h1,if_neg h1]
def Gg (s t:St) (L I:List Nat):Prop:=(∀ x∈L,s.cell x=t.cell x)∧∀ id∈I,s.res id=t.res id
theorem Gg.app {s t:St} {L I:List Nat} (h:Gg s t L I) (e:G7):Gg (e.app P n s) (e.app P n t) L I:=by
 refine ⟨fun x hx=>?_,fun id hid=>?_⟩
 ·rw [Iw,Iw,h.1 x hx]
 ·rw [L4,L4,h.2 id hid]
theorem Zh.agree {e' e:G7} (h:Zh P ops e' e) (s:St):Gg (e'.app P n s) s (e.looks ops) e.ids:=by
 refine ⟨fun x hx=>?_,fun id hid=>?_⟩
 ·rw [Iw,if_neg (fun q=>h.1 x q.1 hx)]
 ·rw [L4,if_neg (fun q=>h.2 q.1 id q.2 hid)]
theorem Gg.trans {s t u:St} {L I:List Nat} (h:Gg s t L I) (k:Gg t u L I):Gg s u L I:=⟨fun x hx=>(h.1 x hx).trans (k.1 x hx),fun x hx=>(h.2 x hx).trans (k.2 x hx)⟩
theorem Gg.symm {s t:St} {L I:List Nat} (h:Gg s t L I):Gg t s L I:=⟨fun x hx=>(h.1 x hx).symm,fun x hx=>(h.2 x hx).symm⟩
theorem Mh {s t:St}:∀ {sl:List Nat},(∀ x∈sl,s.cell x=t.cell x)→Ds s sl=Ds t sl
 | [],_=>rfl
 | i::r,h=>by
  simp only [Ds]
  rw [h i (by simp),Mh (fun x hx=>h x (by simp [hx]))]
theorem G3 {s t:St}:∀ {l:List Nat},(∀ x∈l,s.res x=t.res x)→Ed s l=Ed t l
 | [],_=>rfl
 | i::r,h=>by
  simp only [Ed]
  rw [h i (by simp),G3 (fun x hx=>h x (by simp [hx]))]
theorem Ub {s t:St} {sl:List Nat} (h1:∀ x∈sl,s.cell x=t.cell x) (h2:∀ id∈Rk s sl,s.res id=t.res id):Rk t sl=Rk s sl:=by
 unfold Rk at h2 ⊢
 dsimp only at h2 ⊢
 rw [← Mh h1]
 have e1:Ed t (Ds s sl)=Ed s (Ds s sl):=(G3 (fun x hx=>h2 x (List.mem_append_left _ (List.mem_append_left _ hx)))).symm
 rw [e1]
 have e2:Ed t (Ds s sl++Ed s (Ds s sl))=Ed s (Ds s sl++Ed s (Ds s sl)):=(G3 (fun x hx=>h2 x (List.mem_append_left _ hx))).symm
 rw [e2]
theorem L5 {s t:St}:∀ {l:List Nat},(∀ x∈l,s.res x=t.res x)→Qc s l=Qc t l
 | [],_=>rfl
 | i::r,h=>by
  simp only [Qc]
  rw [h i (by simp),L5 (fun x hx=>h x (by simp [hx]))]
theorem W6 {s t:St} {o:Oper} (h1:∀ x∈B2 o,s.cell x=t.cell x) (h2:∀ id∈Iv s o,s.res id=t.res id):Iv t o=Iv s o:=by
 unfold Iv at h2 ⊢
 by_cases hm:Ys o=true
 ·rw [if_pos hm,if_pos hm]
 rw [if_neg hm] at h2
 rw [if_neg hm,if_neg hm]
 split
 ·rename_i hq
  rw [if_pos hq] at h2
  exact Ub h1 h2
 ·rename_i hq
  rw [if_neg hq] at h2
  have h3:∀ id∈Rk s (B2 o),s.res id=t.res id:=fun id q=>h2 id (List.mem_append_left _ q)
  rw [Ub h1 h3,← L5 h3]
theorem Yv {s t:St} {o:Oper} {m:List Nat} (h:∀ id∈m,s.res id=t.res id):Ig o t m=Ig o s m:=by
 unfold Ig
 rw [G3 h,L5 h]
theorem Ru {s t:St}:∀ {k nid:Nat},(∀ id,nid≤id→id < nid + k→s.res id=t.res id)→Gn t nid k=Gn s nid k
 | 0,_,_=>rfl
 | k + 1,nid,h=>by
  simp only [Gn]
  rw [h nid (Nat.le_refl _) (by omega),Ru (fun id q1 q2=>h id (by omega) (by omega))]
theorem W7 {s t:St} {sl ids:List Nat} (h1:∀ x∈sl,s.cell x=t.cell x) (h2:∀ id∈ids,s.res id=t.res id):t.view sl ids=s.view sl ids:=by
 refine St.ext' (fun i=>?_) (fun id=>?_)
 ·show (if Ec sl i then t.cell i else .dead)=(if Ec sl i then s.cell i else .dead)
  split
  ·rename_i q; rw [h1 i (Bh.1 q)]
  ·rfl
 ·show (if Ec ids id then t.res id else .unborn)=(if Ec ids id then s.res id else .unborn)
  split
  ·rename_i q; rw [h2 id (Bh.1 q)]
  ·rfl
theorem s7 {s t:St} {nid:Nat} {o:Oper} (h1:∀ x∈B2 o,s.cell x=t.cell x) (h2:∀ id∈Iv s o++Fl nid,s.res id=t.res id):Pt P sigs t nid o=Pt P sigs s nid o:=by
 have h3:∀ id∈Iv s o,s.res id=t.res id:=fun id q=>h2 id (List.mem_append_left _ q)
 unfold Pt
 dsimp only
 rw [W6 h1 h3,W7 h1 h3,← Yv h3,Ru (s:=s) (t:=t) (fun id q1 q2=>h2 id (List.mem_append_right _ (by
  simp only [Fl,List.mem_cons,List.not_mem_nil,or_false,W0] at q2 ⊢
  omega)))]
theorem Aap {s t:St} {o:Oper} {j:Nat} {want:Bool} (hg:o.guard=some (j,want)) (h:∀ x∈s5 ops o,s.cell x=t.cell x):Aao t ops j=Aao s ops j:=by
 unfold s5 at h
 rw [hg] at h
 simp only at h
 unfold Aao
 split
 ·rename_i oj hoj
  rw [hoj] at h
  simp only at h
  split
  ·rename_i d hd
   rw [hd] at h
   simp only [List.mem_cons,List.not_mem_nil,or_false,forall_eq] at h
   rw [h]
  ·rfl
 ·rfl
theorem Pw {s t:St} {o:Oper} (h:∀ x∈s5 ops o,s.cell x=t.cell x):E9 t ops o=E9 s ops o:=by
 unfold E9
 split
 ·rfl
 ·rename_i j want hg
  rw [Aap hg h]
theorem Ac3.local {s t:St} {e:G7} (h:Ac3 P sigs ops s e) (ha:Gg s t (e.looks ops) e.ids):Ac3 P sigs ops t e:=by
 have hg:∀ x∈s5 ops e.o,s.cell x=t.cell x:=fun x hx=>ha.1 x (List.mem_append_right _ hx)
 rcases h with ⟨h1,av,v,h2,h3⟩ | ⟨h1,h2⟩
 ·left
  have hrun:e.run=true:=by rw [h3]; rfl
  have hids:e.ids=Iv s e.o++Fl e.nid:=by rw [h3]; rfl
  have c1:∀ x∈B2 e.o,s.cell x=t.cell x:=fun x hx=>ha.1 x (List.mem_append_left _ (by rw [hrun]; exact hx))
  have c2:∀ id∈Iv s e.o++Fl e.nid,s.res id=t.res id:=fun id hid=>ha.2 id (by rw [hids]; exact hid)
  refine ⟨by rw [Pw hg]; exact h1,av,v,by rw [s7 c1 c2]; exact h2,?_⟩
  have:Nv sigs t e.nid e.o av v=Nv sigs s e.nid e.o av v:=by
   unfold Nv
   rw [W6 c1 (fun id hid=>c2 id (List.mem_append_left _ hid)),W7 c1 (fun id hid=>c2 id (List.mem_append_left _ hid))]
  rw [this]
  exact h3
 ·exact .inr ⟨by rw [Pw hg]; exact h1,h2⟩
theorem W8 {D:Nat→Bool} {e:G7}:∀ {tr:List G7} {k:Nat} {s:St},(∀ j f,tr[j]? = some f→D (k + j)=true→Fu P ops e f=true)→L3 P n D k tr (e.app P n s)=e.app P n (L3 P n D k tr s)
 | [],_,_,_=>rfl
 | f::r,k,s,h=>by
  simp only [L3]
  have h':∀ j f',r[j]? = some f'→D (k + 1 + j)=true→Fu P ops e f'=true:=fun j f' h1 h2=>h (j + 1) f' (by simpa using h1) (by rw [← h2]; congr 1; omega)
  split
  ·rename_i hD
   rw [Ae0 (h 0 f rfl hD),W8 h']
  ·exact W8 h'
theorem S7 {D D':Nat→Bool}:∀ {tr:List G7} {k:Nat} {s:St},(∀ j,j < tr.length→D (k + j)=D' (k + j))→L3 P n D k tr s=L3 P n D' k tr s
 | [],_,_,_=>rfl
 | f::r,k,s,h=>by
  simp only [L3]
  have h0:D k=D' k:=h 0 (by simp)
  rw [h0]
  exact S7 (fun j hj=>by have:=h (j + 1) (by simpa using hj); rw [show k + 1 + j=k + (j + 1) by omega]; exact this)
theorem Abx {D D':Nat→Bool} {e:G7}:∀ {tr:List G7} {k i:Nat} {s:St},tr[i]? = some e→D (k + i)=false→D' (k + i)=true→(∀ j,j≠i→D' (k + j)=D (k + j))→
  (∀ j f,i < j→tr[j]? = some f→D (k + j)=true→Fu P ops e f=true)→L3 P n D' k tr s=e.app P n (L3 P n D k tr s)
 | [],_,_,_,h,_,_,_,_=>by simp at h
 | f::r,k,0,s,h,h1,h2,h3,h4=>by
  simp at h
  subst h
  simp only [L3]
  have h1':D k=false:=h1
  have h2':D' k=true:=h2
  rw [h1',h2']
  simp only [if_true,Bool.false_eq_true,if_false]
  rw [S7 (D:=D') (D':=D) (fun j hj=>by have:=h3 (j + 1) (by omega); rw [show k + 1 + j=k + (j + 1) by omega]; exact this)]
  exact W8 (fun j f' q1 q2=>h4 (j + 1) f' (by omega) (by simpa using q1) (by rw [← q2]; congr 1; omega))
 | f::r,k,i + 1,s,h,h1,h2,h3,h4=>by
  simp only [L3]
  have h0:D' k=D k:=h3 0 (by omega)
  rw [h0]
  refine Abx (i:=i) (by simpa using h) (by rw [← h1]; congr 1; omega) (by rw [← h2]; congr 1; omega) (fun j hj=>?_) (fun j f' q1 q2 q3=>?_)
  ·have:=h3 (j + 1) (by omega)
   rw [show k + 1 + j=k + (j + 1) by omega]
   exact this
  ·exact h4 (j + 1) f' (by omega) (by simpa using q2) (by rw [← q3]; congr 1; omega)
theorem S8 {D:Nat→Bool} {e:G7}:∀ {tr:List G7} {k i:Nat} {s t:St},Gg s t (e.looks ops) e.ids→
  (∀ j f,tr[j]? = some f→j < i→D (k + j)=false→Zh P ops f e)→(∀ j f,tr[j]? = some f→i≤j→D (k + j)=true→Zh P ops f e)→
  Gg (L3 P n D k tr s) (L3 P n (fun _=>true) k (tr.take i) t) (e.looks ops) e.ids
 | [],k,i,s,t,h,_,_=>by simpa [L3] using h
 | f::r,k,0,s,t,h,h1,h2=>by
  simp only [L3,List.take_zero]
  have ih:∀ s',Gg s' t (e.looks ops) e.ids→Gg (L3 P n D (k + 1) r s') t (e.looks ops) e.ids:=fun s' q=>by
   have:=S8 (D:=D) (tr:=r) (k:=k + 1) (i:=0) q (fun j f' q1 q2=>by omega) (fun j f' q1 _ q3=>h2 (j + 1) f' (by simpa using q1) (by omega) (by rw [← q3]; congr 1; omega))
   simpa [L3] using this
  split
  ·rename_i hD
   exact ih _ (((h2 0 f rfl (by omega) hD).agree s).trans h)
  ·exact ih _ h
 | f::r,k,i + 1,s,t,h,h1,h2=>by
  simp only [L3,List.take_succ_cons,if_true]
  have ih:∀ s' t',Gg s' t' (e.looks ops) e.ids→Gg (L3 P n D (k + 1) r s') (L3 P n (fun _=>true) (k + 1) (r.take i) t') (e.looks ops) e.ids:=fun s' t' q=>
   S8 (D:=D) q (fun j f' q1 q2 q3=>h1 (j + 1) f' (by simpa using q1) (by omega) (by rw [← q3]; congr 1; omega)) (fun j f' q1 q2 q3=>h2 (j + 1) f' (by simpa using q1) (by omega) (by rw [← q3]; congr 1; omega))
  split
  ·exact ih _ _ (h.app f)
  ·rename_i hD
   have hD:D k=false:=by simpa using hD
   exact ih _ _ (h.trans ((h1 0 f rfl (by omega) hD).agree t).symm)
theorem Qe.get:∀ {tr:List G7} {k i:Nat} {s:St} {e:G7},Qe P sigs ops n tr s→tr[i]? = some e→Ac3 P sigs ops (L3 P n (fun _=>true) k (tr.take i) s) e
 | [],_,_,_,_,_,h=>by simp at h
 | f::r,k,0,s,e,h,hi=>by
  simp at hi
  subst hi
  simpa [L3] using h.1
 | f::r,k,i + 1,s,e,h,hi=>by
  simp only [List.take_succ_cons,L3,if_true]
  exact Qe.get h.2 (by simpa using hi)
def Ae1 (tr:List G7) (D:Nat→Prop):Prop:=∀ k e,tr[k]? = some e→D k→∀ p∈J0 e.o,D p
def Bef (tr:List G7) (i:Nat) (e:G7):Prop:=∀ D,Ae1 tr D→(∀ p∈J0 e.o,D p)→D i
theorem Zi {ancs:List Nat} {i:Nat}:∀ {ps:List Nat},(Ua ancs ps).testBit i=true→∃ p∈ps,p=i∨(ancs.getD p 0).testBit i=true
 | [],h=>by simp [Ua] at h
 | p::r,h=>by
  simp only [Ua,Nat.testBit_or,Bool.or_eq_true] at h
  rcases h with (h | h) | h
  ·refine ⟨p,by simp,.inl ?_⟩
   rw [Nat.one_shiftLeft,Nat.testBit_two_pow] at h
   simpa using h
  ·exact ⟨p,by simp,.inr h⟩
  ·obtain ⟨q,h1,h2⟩:=Zi h
   exact ⟨q,by simp [h1],h2⟩
theorem W9 {A:Nat} {e:G7}:∀ {l:List G7} {k:Nat},W5 P ops A e k l=true→∀ j f,l[j]? = some f→A.testBit (k + j)=true∨Fu P ops f e=true
 | [],_,_,j,f,hj=>by simp at hj
 | d::r,k,h,0,f,hj=>by
  simp at hj
  subst hj
  simp only [W5,Bool.and_eq_true,Bool.or_eq_true] at h
  exact h.1
 | d::r,k,h,j + 1,f,hj=>by
  simp only [W5,Bool.and_eq_true,Bool.or_eq_true] at h
  have:=W9 h.2 j f (by simpa using hj)
  rw [show k + (j + 1)=k + 1 + j by omega]
  exact this
theorem s8 {tr:List G7}:∀ {rest done:List G7} {ancs:List Nat},tr=done++rest→ancs.length=done.length→Ac4 P ops done.length done ancs rest=true→
  (∀ k e x,done[k]? = some e→(ancs.getD k 0).testBit x=true→Bef tr x e)→
  (∀ i j e f,tr[i]? = some e→tr[j]? = some f→i < j→j < done.length→Bef tr i f∨Fu P ops e f=true)→
  (∀ j f,tr[j]? = some f→j < done.length→∀ p∈J0 f.o,p < j)→
  (∀ i j e f,tr[i]? = some e→tr[j]? = some f→i < j→Bef tr i f∨Fu P ops e f=true)∧(∀ j f,tr[j]? = some f→∀ p∈J0 f.o,p < j)
 | [],done,ancs,h,_,_,_,h3,h4=>by
  subst h
  rw [List.append_nil]
  refine ⟨fun i j e f h1 h2 h5=>?_,fun j f h1=>?_⟩
  ·have:=h3 i j e f (by rw [List.append_nil]; exact h1) (by rw [List.append_nil]; exact h2) h5 (List.getElem?_eq_some_iff.1 h2).1
   rwa [List.append_nil] at this
  ·exact h4 j f (by rw [List.append_nil]; exact h1) (List.getElem?_eq_some_iff.1 h1).1
 | e::rest,done,ancs,h,hl,hok,h2,h3,h4=>by
  simp only [Ac4,Bool.and_eq_true] at hok
  obtain ⟨k1,k2,k3⟩:=hok
  have hget:tr[done.length]? = some e:=by rw [h]; simp
  have hbef:∀ x,(Ua ancs (J0 e.o)).testBit x=true→Bef tr x e:=by
   intro x hx D hD hp
   obtain ⟨p,q1,q2⟩:=Zi hx
   rcases q2 with rfl | q2
   ·exact hp _ q1
   ·have hpl:p < done.length:=Zg.1 k1 p q1
    have hpe:done[p]? = some done[p]:=List.getElem?_eq_getElem hpl
    have hpt:tr[p]? = some done[p]:=by rw [h,List.getElem?_append_left hpl]; exact hpe
    exact h2 p _ x hpe q2 D hD (hD p _ hpt (hp p q1))
  have hlen:(done++[e]).length=done.length + 1:=by simp
  refine s8 (rest:=rest) (done:=done++[e]) (ancs:=ancs++[Ua ancs (J0 e.o)]) (by rw [h]; simp) (by simp [hl]) (by rw [hlen]; exact k3) ?_ ?_ ?_
  ·intro k f x hk hx
   by_cases q:k < done.length
   ·rw [List.getElem?_append_left q] at hk
    refine h2 k f x hk ?_
    rw [List.getD_eq_getElem?_getD,List.getElem?_append_left (by omega),← List.getD_eq_getElem?_getD] at hx
    exact hx
   ·have hkl:=(List.getElem?_eq_some_iff.1 hk).1
    have hke:k=done.length:=by simp at hkl; omega
    subst hke
    simp at hk
    subst hk
    rw [List.getD_eq_getElem?_getD,← hl] at hx
    simp at hx
    exact hbef x hx
  ·intro i j f f' q1 q2 q3 q4
   by_cases q:j < done.length
   ·exact h3 i j f f' q1 q2 q3 q
   ·have:j=done.length:=by simp at q4; omega
    subst this
    rw [hget] at q2
    cases q2
    have hi:done[i]? = some f:=by rw [h,List.getElem?_append_left q3] at q1; exact q1
    rcases W9 k2 i f hi with q5 | q5
    ·exact .inl (hbef i (by simpa using q5))
    ·exact .inr q5
  ·intro j f q1 q2
   by_cases q:j < done.length
   ·exact h4 j f q1 q
   ·have:j=done.length:=by simp at q2; omega
    subst this
    rw [hget] at q1
    cases q1
    exact Zg.1 k1
end
end
section
def unl (listed:Array Bool):Nat→Nat
 | 0=>0
 | k + 1=>unl listed k + (if listed.getD k false then 0 else 1)
theorem Et (listed:Array Bool) (i j:Nat) (h:i < listed.size):(listed.setIfInBounds i true).getD j false=if j=i then true else listed.getD j false:=by
 by_cases q:j=i
 ·subst q
  simp [h]
 ·rw [getD_set_ne false (fun e=>q e.symm)]
  simp [q]
theorem Aby (listed:Array Bool) (i:Nat) (h:i < listed.size):∀ k,k≤i→unl (listed.setIfInBounds i true) k=unl listed k
 | 0,_=>rfl
 | k + 1,hk=>by
  simp only [unl]
  have hq:(listed.setIfInBounds i true).getD k false=listed.getD k false:=by rw [Et listed i k h,if_neg (by omega)]
  rw [Aby listed i h k (by omega),hq]
theorem Abz (listed:Array Bool) (i:Nat) (h:i < listed.size) (hf:listed.getD i false=false):∀ k,i < k→unl (listed.setIfInBounds i true) k + 1=unl listed k
 | 0,hk=>by omega
 | k + 1,hk=>by
  simp only [unl]
  by_cases q:k=i
  ·subst q
   have hq:(listed.setIfInBounds k true).getD k false=true:=by rw [Et listed k k h,if_pos rfl]
   rw [Aby listed k h k (Nat.le_refl _),hq,hf]
   simp
  ·have hq:(listed.setIfInBounds i true).getD k false=listed.getD k false:=by rw [Et listed i k h,if_neg q]
   rw [hq]
   have:=Abz listed i h hf k (by omega)
   omega
theorem s9 (listed:Array Bool):∀ k,unl listed k=0→∀ j,j < k→listed.getD j false=true
 | 0,_,j,hj=>by omega
 | k + 1,h,j,hj=>by
  simp only [unl] at h
  by_cases q:j=k
  ·subst q
   by_cases hq:listed.getD j false=true
   ·exact hq
   ·rw [if_neg hq] at h; omega
  ·exact s9 listed k (by omega) j (by omega)
section
variable {P:Program} {n B:Nat} {Iq:List Nat} {sigs:Tb} {ops:Array Oper}
theorem Xa {listed:Array Bool} {j:Nat} (hj:j∈Region.ready .any ops listed):∃ o,ops[j]? = some o∧listed.getD j true=false∧∀ p∈J0 o,listed.getD p false=true:=by
 obtain ⟨h0,o,ho,h⟩:=mem_ready.1 hj
 refine ⟨o,ho,h0,fun p hp=>?_⟩
 simp only [J0,List.mem_map,List.mem_filter] at hp
 obtain ⟨e,⟨he,hb⟩,rfl⟩:=hp
 exact h e (Array.mem_toList_iff.1 he) hb
theorem Aaq {tr:List G7} (htr:tr.map (·.o)=ops.toList) {listed:Array Bool} (hsz:listed.size=ops.size) (hp:∀ j f,tr[j]? = some f→∀ p∈J0 f.o,p < j) (hr:Region.ready .any ops listed=[]):
  ∀ j,j < ops.size→listed.getD j false=true:=by
 intro j
 induction j using Nat.strongRecOn with
 | _ j ih=>
  intro hj
  cases hq:listed.getD j false with
  | true=>rfl
  | false=>
   exfalso
   have hlen:tr.length=ops.size:=by rw [← Array.length_toList,← htr]; simp
   have hte:tr[j]? = some (tr[j]'(by omega)):=List.getElem?_eq_getElem (by omega)
   have ho:ops[j]? = some (tr[j]'(by omega)).o:=by
    rw [← Array.getElem?_toList,← htr,List.getElem?_map,hte]
    rfl
   have:j∈Region.ready .any ops listed:=by
    rw [mem_ready]
    refine ⟨?_,_,ho,fun e he hb=>?_⟩
    ·rw [← hq]
     simp [Array.getD,show j < listed.size by omega]
    ·have hmem:e.on∈J0 (tr[j]'(by omega)).o:=by
      simp only [J0,List.mem_map,List.mem_filter]
      exact ⟨e,⟨Array.mem_toList_iff.2 he,hb⟩,rfl⟩
     have:=hp j _ hte _ hmem
     exact ih e.on this (by omega)
   rw [hr] at this
   cases this
theorem Ae2 {o:Oper} (h:Ft o=true):Uo P o=true:=by
 obtain ⟨dst,op,type,pos,after,guard⟩:=o
 cases op<;>simp only [Ft] at h<;>simp only [Uo]<;>first | exact h | (cases h; done) | skip
 case call c=>
  split at h
  ·rename_i hq
   rw [hq]
  ·cases h
theorem t9:∀ {ms:List Md} {y:Pq ms} {ow:List (Option Nat)} {res:Nat→Dj},Aey ms=true→Eh ms y ow res=res
 | [],_,_,_,_=>rfl
 | .rd _::ms,y,ow,res,h=>t9 (ms:=ms) h
 | .own _ _::_,_,_,_,h=>by cases h
 | .bx _ _::_,_,_,_,h=>by cases h
 | .mu _ _::_,_,_,_,h=>by cases h
theorem Agm {v v':St} {nid:Nat} {o:Oper} {av:AV} {m:List Nat} (e:Iu P sigs v nid o=some (av,v')) {id:Nat} (hm:id∈m) (hw:id ∉ wrO sigs v nid o m):v'.res id=v.res id:=by
 obtain ⟨dst,op,type,pos,after,guard⟩:=o
 cases op<;>try exact absurd hm hw
 case store T x y=>
  unfold wrO at hw
  simp only at hw
  split at hw
  ·rename_i j off hl
   have hN:∀ tk,Ps tk P v nid ⟨dst,.store T x y,type,pos,after,guard⟩=none:=fun tk=>by
    have:Oy P v T x y=none:=by unfold Oy; rw [hl]
    show stC (Oy P v T x y)=none
    rw [this]
    rfl
   have e2:En (if Rd v x then stC (Re P v T x y) else stC (Nn P v T x y))=some (av,v'):=by
    have e:En (It sigs.nest P v nid ⟨dst,.store T x y,type,pos,after,guard⟩)=some (av,v'):=e
    rw [Fi hN] at e
    exact e
   have hlp:Rd v x=false:=by unfold Rd; rw [hl]
   rw [hlp] at e2
   simp only [Bool.false_eq_true,if_false] at e2
   obtain ⟨s',e3,e4⟩:=Ox e2
   cases e4
   obtain ⟨cs,e5,_⟩:=A2 e3
   unfold Nn at e5
   rw [hl] at e5
   simp only [Option.bind_some] at e5
   obtain ⟨u,e6,e7⟩:=Al e5
   split at e7
   ·cases e7
   ·split at e7
    ·split at e7
     ·split at e7
      ·cases e7
       have hne:id≠j:=by
        intro q
        subst q
        rw [if_pos (Bh.2 hm)] at hw
        exact hw (List.mem_singleton.2 rfl)
       show Du v.res j _ id=v.res id
       exact Ae _ _ hne
      ·cases e7
     ·cases e7
    ·cases e7
  ·exact absurd hm hw
 case call c=>
  unfold wrO at hw
  simp only at hw
  split at hw
  ·rename_i f xs hc
   split at hw
   ·rename_i sd hsd
    split at hw
    ·rename_i hq
     simp only [Bool.and_eq_true] at hq
     obtain ⟨q1,q2,q3,q4⟩:=hq
     unfold Iu at e
     rw [hc] at e
     simp only at e
     split at e
     ·rename_i vs hvs
      rw [hsd] at e
      simp only at e
      unfold P5 at e
      rw [q2,q3] at e
      simp only [Bool.and_self,if_true] at e
      obtain ⟨ls,e1,e⟩:=Al e
      obtain ⟨q,e2,e⟩:=Al e
      split at e
      ·split at e
       ·obtain ⟨r,e3,e⟩:=Al e
        obtain ⟨vs',e4,e⟩:=Al e
        cases e
        show De sd.sg.rs r.1 nid (Eh sd.sg.ps r.2 q.2 v.res) id=v.res id
        rw [t9 q1]
        refine Bb _ _ _ _ _ ?_
        have hq4:=Nat.le_of_ble_eq_true q4
        simp only [Fl,List.mem_cons,List.not_mem_nil,or_false,not_or] at hw
        omega
       ·cases e
      ·cases e
     ·cases e
    ·exact absurd hm hw
   ·exact absurd hm hw
  ·exact absurd hm hw
theorem Ais {v:St} {nid:Nat} {o:Oper} {m:List Nat} (hs:∀ i∈Fl nid,i∈m) {id:Nat} (h:id∈wrO sigs v nid o m):id∈m:=by
 unfold wrO at h
 split at h
 ·split at h
  ·split at h
   ·rename_i q
    rw [List.mem_singleton.1 h]
    exact Bh.1 q
   ·exact h
  ·exact h
 ·split at h
  ·split at h
   ·split at h
    ·exact hs id h
    ·exact h
   ·exact h
  ·exact h
 ·exact h
theorem Agn (hs:Bd P sigs) {s:St} {g:Gh} {a:Act} {w:World} (h:As n B Iq s g a w) {e:G7} (hf:Ac3 P sigs ops s e) {i:Nat} (ho:ops[i]? = some e.o)
  {K:Act→World→Prop} {Q:Exit→Act→World→Prop} (hK:∀ a' g' w',Go B Iq s g w (e.app P n s) g' w'→As n B Iq (e.app P n s) g' a' w'→K a' w'):wpOp P ops Q i K a w:=by
 unfold wpOp
 rw [ho]
 simp only
 rcases hf with ⟨h1,av,v,h2,h3⟩ | ⟨h1,h2⟩
 ·rw [if_pos (Gq h h1)]
  left
  refine Aev hs h h2 K Q fun u g' w' k1 k2 k3=>?_
  have happ:e.app P n s=St.put n (if Ft e.o then s else s.lay v (Iv s e.o++Fl e.nid)) e.o.dst av:=by
   have q1:e.run=true:=by rw [h3]; rfl
   have q2:e.wr=wrO sigs (s.view (B2 e.o) (Iv s e.o)) e.nid e.o (Iv s e.o++Fl e.nid):=by rw [h3]; rfl
   have q3:e.av=av:=by rw [h3]; rfl
   have q4:e.res=v.res:=by rw [h3]; rfl
   unfold G7.app
   rw [q3]
   congr 1
   rw [q2,q4]
   by_cases hq:e.quiet P=true
   ·rw [if_pos hq]
    have hro:Uo P e.o=true:=by
     unfold G7.quiet at hq
     rw [q1] at hq
     simpa using hq
    by_cases hlt:Ft e.o=true
    ·rw [if_pos hlt]
    ·rw [if_neg hlt]
     unfold Pt at h2
     dsimp only at h2
     split at h2
     ·rename_i hfr
      split at h2
      ·obtain ⟨p,e1,e2⟩:=Al h2
       split at e2
       ·split at e2<;>cases e2
        unfold Iu at e1
        rw [Agl hro] at e1
        simp only [Ah2 hro] at e1
        have:=Aew hro e1
        rw [this]
        refine St.ext' (fun i=>rfl) (fun id=>?_)
        show s.res id=if Ec _ id then (if Ec _ id then s.res id else .unborn) else s.res id
        split
        ·rename_i hm
         split
         ·rfl
         ·rename_i hn
          rcases List.mem_append.1 (Bh.1 hm) with q | q
          ·exact absurd (Bh.2 q) hn
          ·exact Qd hfr id q
        ·rfl
       ·cases e2
      ·cases h2
     ·cases h2
   ·have hlt:¬ Ft e.o=true:=fun q=>hq (by
     unfold G7.quiet
     rw [q1,Ae2 q]
     rfl)
    rw [if_neg hq,if_neg hlt]
    unfold Pt at h2
    dsimp only at h2
    split at h2
    ·rename_i hfr
     split at h2
     ·obtain ⟨p,e1,e2⟩:=Al h2
      split at e2
      ·split at e2<;>cases e2
       refine St.ext' (fun i=>rfl) (fun id=>?_)
       show (if Ec _ id then v.res id else s.res id)=if Ec _ id then v.res id else s.res id
       by_cases hm:id∈Iv s e.o++Fl e.nid
       ·rw [if_pos (Bh.2 hm)]
        split
        ·rfl
        ·rename_i hw
         rw [Agm e1 hm (fun q=>hw (Bh.2 q))]
         show s.res id=if Ec _ id then s.res id else .unborn
         split
         ·rfl
         ·rename_i hn
          rcases List.mem_append.1 hm with q | q
          ·exact absurd (Bh.2 q) hn
          ·exact Qd hfr id q
       ·rw [if_neg (fun q=>hm (Bh.1 q)),if_neg (fun q=>hm (Ais (fun i hi=>List.mem_append_right _ hi) (Bh.1 q)))]
      ·cases e2
     ·cases h2
    ·cases h2
  obtain ⟨r1,r2⟩:=G2 k2 e.o.dst k3
  exact hK _ g' w' (by rw [happ]; exact k1.trans r2) (by rw [happ]; exact r1)
 ·rw [if_neg (by rw [Gq h h1]; simp)]
  have happ:e.app P n s=St.put n s e.o.dst (.tp []):=by
   have q1:e.run=false:=by rw [h2]; rfl
   have q2:e.av=.tp []:=by rw [h2]; rfl
   unfold G7.app
   rw [q2]
   have:e.quiet P=true:=by unfold G7.quiet; rw [q1]; rfl
   rw [if_pos this]
  obtain ⟨r1,r2⟩:=G2 (av:=.tp []) (v:=undef) h e.o.dst ⟨#[],rfl,rfl,fun j v hv=>by simp at hv⟩
  exact hK _ g w (by rw [happ]; exact r2) (by rw [happ]; exact r1)
theorem Ah4 (hs:Bd P sigs) {tr:List G7} {s0:St} {g0:Gh} {w0:World} (htr:tr.map (·.o)=ops.toList) (hfit:Qe P sigs ops n tr s0) (hok:Ac4 P ops 0 [] [] tr=true) {Q:Exit→Act→World→Prop}
  (hQ:∀ a g w,Go B Iq s0 g0 w0 (L3 P n (fun _=>true) 0 tr s0) g w→As n B Iq (L3 P n (fun _=>true) 0 tr s0) g a w→Q .normal a w):
  ∀ (fuel:Nat) (listed:Array Bool) (a:Act) (g:Gh) (w:World),listed.size=ops.size→unl listed ops.size≤fuel→Ae1 tr (fun i=>listed.getD i false=true)→
   Go B Iq s0 g0 w0 (L3 P n (fun i=>listed.getD i false) 0 tr s0) g w→As n B Iq (L3 P n (fun i=>listed.getD i false) 0 tr s0) g a w→wpAny P .any ops Q fuel listed a w:=by
 have hlen:tr.length=ops.size:=by rw [← Array.length_toList,← htr]; simp
 obtain ⟨hconf,hlt⟩:=s8 (tr:=tr) (rest:=tr) (done:=[]) (ancs:=[]) rfl rfl hok (by simp) (by simp) (by simp)
 have hdone:∀ (listed:Array Bool) a g w,(∀ j,j < ops.size→listed.getD j false=true)→Go B Iq s0 g0 w0 (L3 P n (fun i=>listed.getD i false) 0 tr s0) g w→
   As n B Iq (L3 P n (fun i=>listed.getD i false) 0 tr s0) g a w→Q .normal a w:=by
  intro listed a g w hall h1 h2
  have:L3 P n (fun i=>listed.getD i false) 0 tr s0=L3 P n (fun _=>true) 0 tr s0:=S7 (fun j hj=>by
   rw [Nat.zero_add]
   exact hall j (by omega))
  rw [this] at h1 h2
  exact hQ a g w h1 h2
 intro fuel
 induction fuel with
 | zero=>
  intro listed a g w hsz hu hcl h1 h2
  have hall:=s9 listed ops.size (by omega)
  refine ⟨?_,hdone listed a g w hall h1 h2⟩
  cases hr:Region.ready .any ops listed with
  | nil=>rfl
  | cons j r=>
   exfalso
   have hj:j∈Region.ready .any ops listed:=by rw [hr]; simp
   obtain ⟨o,ho,h0,_⟩:=Xa hj
   have hlt:=(Array.getElem?_eq_some_iff.1 ho).1
   have:=hall j hlt
   simp [Array.getD,show j < listed.size by omega] at this h0
   rw [this] at h0
   cases h0
 | succ fuel ih=>
  intro listed a g w hsz hu hcl h1 h2
  refine ⟨fun hr=>hdone listed a g w (Aaq htr hsz hlt hr) h1 h2,fun i hi=>?_⟩
  obtain ⟨o,ho,h0,hp⟩:=Xa hi
  have hil:i < ops.size:=(Array.getElem?_eq_some_iff.1 ho).1
  have hf0:listed.getD i false=false:=by
   rw [← h0]
   simp [Array.getD,show i < listed.size by omega]
  have hte:tr[i]? = some (tr[i]'(by omega)):=List.getElem?_eq_getElem (by omega)
  generalize hen:tr[i]'(by omega)=e at hte
  have heo:e.o=o:=by
   have:ops[i]? = some e.o:=by
    rw [← Array.getElem?_toList,← htr,List.getElem?_map,hte]
    rfl
   rw [ho] at this
   exact (Option.some.inj this).symm
  have hnotbef:∀ j f,tr[j]? = some f→i < j→listed.getD j false=true→Fu P ops e f=true:=by
   intro j f q1 q2 q3
   rcases hconf i j e f hte q1 q2 with q | q
   ·exfalso
    have:=q _ hcl (hcl j f q1 q3)
    rw [hf0] at this
    cases this
   ·exact q
  have hahead:∀ j f,tr[j]? = some f→j < i→listed.getD j false=false→Fu P ops f e=true:=by
   intro j f q1 q2 q3
   rcases hconf j i f e q1 hte q2 with q | q
   ·exfalso
    have:=q _ hcl (fun p hpp=>hp p (by rw [← heo]; exact hpp))
    rw [q3] at this
    cases this
   ·exact q
  have hagree:=S8 (P:=P) (n:=n) (D:=fun i=>listed.getD i false) (e:=e) (tr:=tr) (k:=0) (i:=i) (s:=s0) (t:=s0) ⟨fun _ _=>rfl,fun _ _=>rfl⟩
   (fun j f q1 q2 q3=>by rw [Nat.zero_add] at q3; exact (Rs (hahead j f q1 q2 q3)).1)
   (fun j f q1 q2 q3=>by
    rw [Nat.zero_add] at q3
    by_cases q:j=i
    ·subst q
     rw [hf0] at q3
     cases q3
    ·exact (Rs (hnotbef j f q1 (by omega) q3)).2)
  have hfits:=(Qe.get (k:=0) hfit hte).local hagree.symm
  refine Agn hs h2 hfits (by rw [heo]; exact ho) fun a' g' w' k1 k2=>?_
  have hset:L3 P n (fun j=>(listed.setIfInBounds i true).getD j false) 0 tr s0=e.app P n (L3 P n (fun i=>listed.getD i false) 0 tr s0):=by
   refine Abx (ops:=ops) (i:=i) hte (by rw [Nat.zero_add]; exact hf0) (by rw [Nat.zero_add,Et listed i i (by omega),if_pos rfl]) (fun j hj=>by rw [Nat.zero_add,Et listed i j (by omega),if_neg hj]) (fun j f q1 q2 q3=>?_)
   rw [Nat.zero_add] at q3
   exact hnotbef j f q2 q1 q3
  refine ih (listed.setIfInBounds i true) a' g' w' (by simp [hsz]) ?_ ?_ (by rw [hset]; exact h1.trans k1) (by rw [hset]; exact k2)
  ·have:=Abz listed i (by omega) hf0 ops.size hil
   omega
  ·intro k f q1 q2 p q3
   rw [Et listed i k (by omega)] at q2
   rw [Et listed i p (by omega)]
   split
   ·rfl
   ·by_cases q:k=i
    ·subst q
     rw [hte] at q1
     cases q1
     exact hp p (by rw [← heo]; exact q3)
    ·rw [if_neg q] at q2
     exact hcl k f q1 q2 p q3
end
end
section
def u1 (l:List (Nat×AV)) (i:Nat):AV:=match l with
 | []=>.dead
 | (j,v)::r=>bif Nat.beq j i then v else u1 r i
def Zj (l:List Dj) (i:Nat):Dj:=match l,i with
 | [],_=>.unborn
 | r::_,0=>r
 | _::l,i + 1=>Zj l i
def u3 (cs:List (Nat×AV)) (rs:List Dj):St:=⟨u1 cs,Zj rs⟩
def K2 (us:List Nat) (id:Nat):Option Nat:=match us with
 | []=>none
 | j::r=>bif Nat.beq j id then some 0 else (K2 r id).map (· + 1)
def Xb (s:St) (us:List Nat):Lf→Option Lf
 | .c v=>some (.c v)
 | .sl t xs=>some (.sl t xs)
 | .row id=>match s.res id with
  | .frozen t xs=>some (.sl t xs)
  | _=>(K2 us id).map .row
 | .ptr id off=>(K2 us id).map fun j=>.ptr j off
 | .ep t xs i off=>some (.ep t xs i off)
 | .rp id i off=>(K2 us id).map fun j=>.rp j i off
 | .sp id=>(K2 us id).map fun j=>.sp j
def Rv (s:St) (us:List Nat):List Lf→Option (List Lf)
 | []=>some []
 | l::r=>(Xb s us l).bind fun l'=>(Rv s us r).map fun r'=>l'::r'
def Ab0 (s:St) (us:List Nat):Vl→Option Vl
 | .lf l=>(Xb s us l).map .lf
 | .ag ls=>(Rv s us ls).map .ag
def S9 (s:St) (us:List Nat):List Vl→Option (List Vl)
 | []=>some []
 | l::r=>(Ab0 s us l).bind fun l'=>(S9 s us r).map fun r'=>l'::r'
def Xc (s:St) (us:List Nat):AV→AV
 | .dead=>.dead
 | .vl v=>match Ab0 s us v with
  | some v=>.vl v
  | none=>.dead
 | .tp vs=>match S9 s us vs with
  | some vs=>.tp vs
  | none=>.dead
 | .fn f ls=>match Rv s us ls with
  | some ls=>.fn f ls
  | none=>.dead
def Bj (s:St) (us:List Nat):Dj→Dj
 | .box T ls=>match Rv s us ls with
  | some ls=>.box T ls
  | none=>.dead
 | .last e t xs c j=>match K2 us j with
  | some j'=>.last e t xs c j'
  | none=>.dead
 | .mid _ _ _ _ _=>.dead
 | r=>r
def Rw (s:St):List Lf→List Nat
 | []=>[]
 | .row id::r=>match s.res id with
  | .frozen _ _=>Rw s r
  | _=>id::Rw s r
 | .ptr id _::r=>id::Rw s r
 | .rp id _ _::r=>id::Rw s r
 | .sp id::r=>id::Rw s r
 | _::r=>Rw s r
def Ab1:List Vl→List Lf
 | []=>[]
 | v::r=>v.ls++Ab1 r
def Ah5:AV→List Lf
 | .dead=>[]
 | .vl v=>v.ls
 | .tp vs=>Ab1 vs
 | .fn _ ls=>ls
def Zk (s:St):List Nat→List Lf
 | []=>[]
 | i::r=>Ah5 (s.cell i)++Zk s r
def i5 (s:St):List Nat→List Lf
 | []=>[]
 | i::r=>(match s.res i with | .box _ ls=>ls | .last _ _ _ _ j=>[.row j] | _=>[])++i5 s r
def Xd (us:List Nat):List Nat→List Nat
 | []=>us
 | i::r=>if Ec us i then Xd us r else Xd (us++[i]) r
def Ajf (n:Nat):List Nat:=List.range n
def Vv (s:St) (np:Nat) (live:List Nat):List Nat:=
 let l0:=Xd (Ajf np) (Rw s (Zk s live))
 let l1:=Xd l0 (Rw s (i5 s l0))
 Xd l1 (Rw s (i5 s l1))
def i6 (s:St) (us:List Nat):List Nat→List (Nat×AV)
 | []=>[]
 | i::r=>(i,Xc s us (s.cell i))::i6 s us r
def Yw (s:St) (us:List Nat):List Nat→List Dj
 | []=>[]
 | i::r=>Bj s us (s.res i)::Yw s us r
def O1:Nat→Nat→List Nat→Bool
 | _,0,_=>true
 | k,m + 1,i::r=>Nat.beq i k&&O1 (k + 1) m r
 | _,_ + 1,[]=>false
def canon (np:Nat) (live:List Nat) (s:St):Option (St×Nat):=
 let us:=Vv s np live
 if Ir us&&O1 0 np us then some (u3 (i6 s us live) (Yw s us us),us.length) else none
section
variable {P:Program} {n B:Nat} {Iq:List Nat} {s:St} {g:Gh} {a:Act} {w:World}
theorem Zl {us:List Nat} {id j:Nat} (h:K2 us id=some j):us[j]? = some id:=by
 induction us generalizing j with
 | nil=>simp [K2] at h
 | cons k r ih=>
  simp only [K2] at h
  cases hq:Nat.beq k id with
  | true=>
   rw [hq] at h
   simp at h
   subst h
   simp [Nat.eq_of_beq_eq_true hq]
  | false=>
   rw [hq] at h
   simp only [cond_false] at h
   obtain ⟨i,h1,rfl⟩:=Option.map_eq_some_iff.1 h
   simpa using ih h1
theorem Zm {us':List Nat}:∀ {us:List Nat} {j:Nat},Zj (Yw s us' us) j=match us[j]? with | some id=>Bj s us' (s.res id) | none=>.unborn
 | [],_=>by simp [Yw,Zj]
 | i::r,0=>by simp [Yw,Zj]
 | i::r,j + 1=>by
  simp only [Yw,Zj]
  rw [Zm (us:=r)]
  simp
theorem Zn {us:List Nat}:∀ {l:List Nat} {i:Nat},u1 (i6 s us l) i=if i∈l then Xc s us (s.cell i) else .dead
 | [],i=>by simp [i6,u1]
 | j::r,i=>by
  simp only [i6,u1]
  cases hq:Nat.beq j i with
  | true=>
   have:=Nat.eq_of_beq_eq_true hq
   subst this
   simp
  | false=>
   have:j≠i:=fun e=>by subst e; simp at hq
   simp only [cond_false]
   rw [Zn (l:=r)]
   simp [Ne.symm this]
section
variable {us live:List Nat}
def Fc (s:St) (us:List Nat) (g:Gh):Gh:=⟨fun j=>match us[j]? with | some id=>if (Bj s us (s.res id)).live then g.blk id else none | none=>none,fun j=>match us[j]? with | some id=>g.hdr id | none=>undef,g.av,fun j=>match us[j]? with | some id=>g.innL id | none=>[]⟩
theorem Ae3 {r:Dj} (h:(Bj s us r).live=true):r.live=true:=by
 cases r<;>simp only [Bj] at h<;>first | exact h | rfl
theorem Ago {r:Dj} (h:(Bj s us r).nst=true):r.nst=true:=by
 cases r<;>simp only [Bj] at h<;>first | rfl | (cases h; done) | (split at h<;>cases h; done)
theorem i7 {s':St} (hs:∀ j,s'.res j=match us[j]? with | some id=>Bj s us (s.res id) | none=>.unborn) {j b:Nat} (h1:(s'.res j).nst=true) (h2:(Fc s us g).inn j b):∃ id,us[j]? = some id∧(s.res id).nst=true∧g.inn id b:=by
 rw [hs] at h1
 simp only [Gh.inn,Fc] at h2
 cases hu:us[j]? with
 | none=>rw [hu] at h1; cases h1
 | some id=>
  rw [hu] at h1 h2
  exact ⟨id,rfl,Ago h1,h2⟩
theorem Ae4 {s':St} (hs:∀ j,s'.res j=match us[j]? with | some id=>Bj s us (s.res id) | none=>.unborn) (b:Nat) (hb:By s g b):By s' (Fc s us g) b:=by
 refine ⟨hb.1,fun j hl hk=>?_,fun j hn hi=>?_⟩
 ·rw [hs] at hl
  simp only [Fc] at hk
  cases hu:us[j]? with
  | none=>rw [hu] at hl; cases hl
  | some id=>
   rw [hu] at hl hk
   simp only at hl hk
   rw [if_pos hl] at hk
   exact hb.2.1 id (Ae3 hl) hk
 ·obtain ⟨id,_,h1,h2⟩:=i7 hs hn hi
  exact hb.2.2 id h1 h2
theorem Ab2 {s':St} (hs:∀ j,s'.res j=match us[j]? with | some id=>Bj s us (s.res id) | none=>.unborn) (hres:∀ id,D1 s g w id (s.res id)):
  ∀ {l l':Lf} {u:Value},Xb s us l=some l'→A7 s g w l u→A7 s' (Fc s us g) w l' u:=by
 have hS:∀ b,By s g b→b < w.heap.size→By s' (Fc s us g) b∧w.heap[b]? = w.heap[b]? := fun b hb _=>⟨Ae4 hs b hb,rfl⟩
 have hat:∀ {id j:Nat},K2 us id=some j→s'.res j=Bj s us (s.res id)∧(Fc s us g).hdr j=g.hdr id∧((Bj s us (s.res id)).live=true→(Fc s us g).blk j=g.blk id):=by
  intro id j h
  have hu:=Zl h
  refine ⟨by rw [hs,hu],by simp only [Fc,hu],fun hl=>by simp only [Fc,hu]; rw [if_pos hl]⟩
 intro l l' u h hl
 cases l with
 | c v=>cases h; exact hl
 | sl t xs=>cases h; exact Ty.K_keep hS hl
 | row id=>
  simp only [Xb] at h
  split at h
  ·rename_i t xs hr
   cases h
   have r:=hres id
   rw [hr] at r
   simp only [A7,hr] at hl
   rw [hl]
   exact Ty.K_keep hS r.1
  ·rename_i hn
   obtain ⟨j,h1,rfl⟩:=Option.map_eq_some_iff.1 h
   obtain ⟨a1,a2,a3⟩:=hat h1
   simp only [A7] at hl ⊢
   rw [a1,a2]
   cases hr:s.res id with
   | unborn=>rw [hr] at hl; exact hl.elim
   | dead=>trivial
   | box T ls=>rw [hr] at hl; exact hl.elim
   | row e t xs=>rw [hr] at hl; exact hl
   | frozen t xs=>exact absurd hr (hn t xs)
   | last e t xs c k=>
    rw [hr] at hl
    simp only [Bj]
    cases hq:K2 us k with
    | none=>trivial
    | some k'=>exact hl
   | mid _ _ _ _ _=>trivial
   | map t xs=>rw [hr] at hl; exact hl
   | iter t xs seen cur=>rw [hr] at hl; exact hl
 | ptr id off=>
  simp only [Xb] at h
  obtain ⟨j,h1,rfl⟩:=Option.map_eq_some_iff.1 h
  obtain ⟨a1,a2,a3⟩:=hat h1
  simp only [A7] at hl ⊢
  rw [a1]
  cases hr:s.res id with
  | unborn=>rw [hr] at hl; exact hl.elim
  | dead=>trivial
  | box T ls=>
   rw [hr] at hl a3
   simp only [Bj] at a3 ⊢
   cases hq:Rv s us ls with
   | none=>trivial
   | some ls'=>
    rw [hq] at a3
    obtain ⟨b,hb,hu⟩:=hl
    exact ⟨b,(a3 rfl).trans hb,hu⟩
  | row e t xs=>rw [hr] at hl; exact hl.elim
  | frozen t xs=>rw [hr] at hl; exact hl.elim
  | last _ _ _ _ _=>rw [hr] at hl; exact hl.elim
  | mid _ _ _ _ _=>rw [hr] at hl; exact hl.elim
  | map _ _=>rw [hr] at hl; exact hl.elim
  | iter _ _ _ _=>rw [hr] at hl; exact hl.elim
 | ep t xs i off=>
  cases h
  obtain ⟨ad,cs,h1,h2,h3,h4,h5⟩:=hl
  exact ⟨ad,cs,h1,Ae4 hs _ h2,h3,Ty.K_keep hS h4,h5⟩
 | rp id i off=>
  simp only [Xb] at h
  obtain ⟨j,h1,rfl⟩:=Option.map_eq_some_iff.1 h
  obtain ⟨a1,a2,a3⟩:=hat h1
  simp only [A7] at hl ⊢
  rw [a1]
  cases hr:s.res id with
  | unborn=>rw [hr] at hl; exact hl.elim
  | dead=>trivial
  | box T ls=>rw [hr] at hl; exact hl.elim
  | row e t xs=>
   rw [hr] at hl a3
   obtain ⟨hi,b,hb,hu⟩:=hl
   exact ⟨hi,b,(a3 rfl).trans hb,hu⟩
  | frozen t xs=>trivial
  | last e t xs c k=>
   rw [hr] at hl a3
   simp only [Bj] at a3 ⊢
   cases hq:K2 us k with
   | none=>trivial
   | some k'=>
    rw [hq] at a3
    obtain ⟨hi,b,hb,hu⟩:=hl
    exact ⟨hi,b,(a3 rfl).trans hb,hu⟩
  | mid _ _ _ _ _=>trivial
  | map _ _=>rw [hr] at hl; exact hl.elim
  | iter _ _ _ _=>rw [hr] at hl; exact hl.elim
 | sp id=>
  simp only [Xb] at h
  obtain ⟨j,h1,rfl⟩:=Option.map_eq_some_iff.1 h
  obtain ⟨a1,a2,a3⟩:=hat h1
  simp only [A7] at hl ⊢
  rw [a1]
  cases hr:s.res id with
  | unborn=>rw [hr] at hl; exact hl.elim
  | dead=>trivial
  | box T ls=>
   rw [hr] at hl a3
   simp only [Bj] at a3 ⊢
   cases hq:Rv s us ls with
   | none=>trivial
   | some ls'=>
    rw [hq] at a3
    rcases hl with hl | ⟨b,hb,hu⟩
    ·exact .inl hl
    ·exact .inr ⟨b,(a3 rfl).trans hb,hu⟩
  | row e t xs=>rw [hr] at hl; exact hl.elim
  | frozen t xs=>rw [hr] at hl; exact hl.elim
  | last _ _ _ _ _=>rw [hr] at hl; exact hl.elim
  | mid _ _ _ _ _=>rw [hr] at hl; exact hl.elim
  | map _ _=>rw [hr] at hl; exact hl.elim
  | iter _ _ _ _=>rw [hr] at hl; exact hl.elim
section
variable {s':St} (hs:∀ j,s'.res j=match us[j]? with | some id=>Bj s us (s.res id) | none=>.unborn) (hres:∀ id,D1 s g w id (s.res id))
 include hs hres
theorem Vw:∀ {ls ls':List Lf} {cs:List Value},Rv s us ls=some ls'→C7 s g w ls cs→C7 s' (Fc s us g) w ls' cs
 | [],ls',[],h,_=>by cases h; trivial
 | [],_,_::_,_,h=>h.elim
 | _::_,_,[],_,h=>h.elim
 | l::r,ls',c::cs,h,hL=>by
  simp only [Rv] at h
  obtain ⟨l',h1,h2⟩:=Al h
  obtain ⟨r',h3,rfl⟩:=Option.map_eq_some_iff.1 h2
  exact ⟨⟨Ab2 hs hres h1 hL.1.1,hL.1.2⟩,Vw h3 hL.2⟩
theorem Ab3 {v v':Vl} {u:Value} (h:Ab0 s us v=some v') (hv:P1 s g w v u):P1 s' (Fc s us g) w v' u:=by
 cases v with
 | lf l=>
  obtain ⟨l',h1,rfl⟩:=Option.map_eq_some_iff.1 h
  exact ⟨Ab2 hs hres h1 hv.1,hv.2⟩
 | ag ls=>
  obtain ⟨l',h1,rfl⟩:=Option.map_eq_some_iff.1 h
  obtain ⟨cs,e1,e2⟩:=hv
  exact ⟨cs,e1,Vw hs hres h1 e2⟩
 omit hs hres in
theorem Xe:∀ {vs vs':List Vl} {j:Nat} {v':Vl},S9 s us vs=some vs'→vs'[j]? = some v'→∃ v,vs[j]? = some v∧Ab0 s us v=some v'
 | [],vs',j,v',h,hj=>by cases h; simp at hj
 | v::r,vs',j,v',h,hj=>by
  simp only [S9] at h
  obtain ⟨l',h1,h2⟩:=Al h
  obtain ⟨r',h3,rfl⟩:=Option.map_eq_some_iff.1 h2
  cases j with
  | zero=>simp at hj; subst hj; exact ⟨v,rfl,h1⟩
  | succ j=>
   obtain ⟨x,e1,e2⟩:=Xe h3 (j:=j) (by simpa using hj)
   exact ⟨x,by simpa using e1,e2⟩
 omit hs hres in
theorem Xf:∀ {vs vs':List Vl},S9 s us vs=some vs'→vs'.length=vs.length
 | [],vs',h=>by cases h; rfl
 | v::r,vs',h=>by
  simp only [S9] at h
  obtain ⟨l',h1,h2⟩:=Al h
  obtain ⟨r',h3,rfl⟩:=Option.map_eq_some_iff.1 h2
  simp [Xf h3]
theorem Agp {v:AV} {u:Value} (hv:Jn s g w v u):Jn s' (Fc s us g) w (Xc s us v) u:=by
 cases v with
 | dead=>trivial
 | vl v=>
  simp only [Xc]
  split
  ·rename_i v' h
   exact Ab3 hs hres h hv
  ·trivial
 | tp vs=>
  simp only [Xc]
  split
  ·rename_i vs' h
   obtain ⟨cs,h1,h2,h3⟩:=hv
   refine ⟨cs,h1,by rw [Xf h]; exact h2,fun j l hl=>?_⟩
   obtain ⟨v,e1,e2⟩:=Xe h hl
   obtain ⟨x,e3,e4⟩:=h3 j v e1
   exact ⟨x,e3,Ab3 hs hres e2 e4⟩
  ·trivial
 | fn f ls=>
  simp only [Xc]
  split
  ·rename_i ls' h
   obtain ⟨cs,h1,h2⟩:=hv
   exact ⟨cs,h1,Vw hs hres h h2⟩
  ·trivial
end
end
theorem Ae5 (h:As n B Iq s g a w) {np:Nat} {live:List Nat} {s':St} {nid:Nat} (e:canon np live s=some (s',nid)):
  ∃ g',As n B Iq s' g' a w∧g'.av=g.av∧∀ id,id < np→(s'.res id=.unborn→s.res id=.unborn)∧(∀ T ls,s'.res id=.box T ls→(∃ T' ls',s.res id=.box T' ls')∧g'.blk id=g.blk id)∧(∀ e,∀ t:Ty,∀ xs:List t.D,s'.res id=.row e t xs→(∃ e',∃ xs':List t.D,s.res id=.row e' t xs')∧g'.blk id=g.blk id∧g'.hdr id=g.hdr id)∧((s'.res id).nst=true→(s.res id).nst=true∧g'.blk id=g.blk id∧g'.hdr id=g.hdr id):=by
 unfold canon at e
 dsimp only at e
 generalize hus:Vv s np live=us at e
 split at e<;>cases e
 rename_i hc
 simp only [Bool.and_eq_true] at hc
 have hnd:=Ra hc.1
 have hs:∀ j,(u3 (i6 s us live) (Yw s us us)).res j=match us[j]? with | some id=>Bj s us (s.res id) | none=>.unborn:=fun j=>Zm
 have hcell:∀ i,(u3 (i6 s us live) (Yw s us us)).cell i=if i∈live then Xc s us (s.cell i) else .dead:=fun i=>Zn
 generalize u3 (i6 s us live) (Yw s us us)=s' at hs hcell ⊢
 have hst:∀ k m l,O1 k m l=true→∀ j,j < m→l[j]? = some (k + j):=by
  intro k m
  induction m generalizing k with
  | zero=>intro l _ j hj; omega
  | succ m ih=>
   intro l hl j hj
   cases l with
   | nil=>simp [O1] at hl
   | cons i r=>
    simp only [O1,Bool.and_eq_true] at hl
    cases j with
    | zero=>simp [Nat.eq_of_beq_eq_true hl.1]
    | succ j=>
     have:=ih (k + 1) r hl.2 j (by omega)
     rw [List.getElem?_cons_succ,this]
     congr 1
     omega
 have hpin:∀ id,id < np→us[id]? = some id:=fun id hid=>by have:=hst 0 np us hc.2 id hid; simpa using this
 have blk_of:∀ j b,(Fc s us g).blk j=some b→∃ id,us[j]? = some id∧g.blk id=some b∧(Bj s us (s.res id)).live=true:=by
  intro j b hb
  simp only [Fc] at hb
  cases hu:us[j]? with
  | none=>rw [hu] at hb; cases hb
  | some id=>
   rw [hu] at hb
   simp only at hb
   split at hb
   ·rename_i hl
    exact ⟨id,rfl,hb,hl⟩
   ·cases hb
 refine ⟨Fc s us g,⟨h.size,h.defers,h.base,fun i=>?_,fun j=>?_,fun i j b hi hj=>?_,fun j b hb=>?_,h.avB,fun j b h1 h2=>?_⟩,rfl,fun id hid=>?_⟩
 ·rw [hcell]
  split
  ·exact Agp hs h.res (h.cell i)
  ·trivial
 ·rw [hs]
  cases hu:us[j]? with
  | none=>show (Fc s us g).blk j=none; simp only [Fc,hu]
  | some id=>
   simp only
   have r:=h.res id
   have hblk:(Fc s us g).blk j=if (Bj s us (s.res id)).live then g.blk id else none:=by simp only [Fc,hu]
   have hhdr:(Fc s us g).hdr j=g.hdr id:=by simp only [Fc,hu]
   have hSS:∀ b,By s g b→b < w.heap.size→By s' (Fc s us g) b:=fun b hb _=>Ae4 hs b hb
   cases hr:s.res id with
   | unborn=>rw [hr] at hblk; exact hblk
   | dead=>rw [hr] at hblk; exact hblk
   | box T ls=>
    rw [hr] at r hblk
    cases hq:Rv s us ls with
    | none=>
     have hrr:Bj s us (.box T ls)=.dead:=by simp only [Bj,hq]
     rw [hrr] at hblk ⊢
     exact hblk
    | some ls'=>
     have hrr:Bj s us (.box T ls)=.box T ls':=by simp only [Bj,hq]
     rw [hrr] at hblk ⊢
     obtain ⟨b,cs,h1,h2,h3⟩:=r
     exact ⟨b,cs,hblk.trans h1,h2,Vw hs h.res hq h3⟩
   | row e t xs=>
    rw [hr] at r hblk
    obtain ⟨cs,h1,h2,h3⟩:=r
    exact ⟨cs,by rw [hhdr]; exact h1,h2.imp hSS,by rw [hhdr]; exact hblk.trans h3⟩
   | frozen t xs=>
    rw [hr] at r hblk
    exact ⟨by rw [hhdr]; exact Ty.K_keep (fun b hb hl=>⟨hSS b hb hl,rfl⟩) r.1,hblk⟩
   | last e t xs c k=>
    rw [hr] at r hblk
    cases hq:K2 us k with
    | none=>
     have hrr:Bj s us (.last e t xs c k)=.dead:=by simp only [Bj,hq]
     rw [hrr] at hblk ⊢
     exact hblk
    | some k'=>
     have hrr:Bj s us (.last e t xs c k)=.last e t xs c k':=by simp only [Bj,hq]
     rw [hrr] at hblk ⊢
     obtain ⟨cs,h1,h2,h3,h4⟩:=r
     have hni:(Fc s us g).inn j=g.inn id:=by funext b; simp only [Gh.inn,Fc,hu]
     refine ⟨cs,by rw [hhdr]; exact h1,by rw [hni]; exact h2.keep (fun b hb hl=>⟨hSS b hb hl,rfl⟩) (fun _ _=>rfl),by rw [hhdr]; exact hblk.trans h3,fun u hc hu=>?_⟩
     have h5:=h4 u hc hu
     have hk':=Zl hq
     have e1:s'.res k'=Bj s us (s.res k):=by rw [hs,hk']
     have e2:(Fc s us g).hdr k'=g.hdr k:=by simp only [Fc,hk']
     rw [e1,e2]
     cases hrk:s.res k with
     | unborn=>rw [hrk] at h5; exact h5.elim
     | dead=>trivial
     | box T ls=>rw [hrk] at h5; exact h5.elim
     | row _ _ _=>rw [hrk] at h5; exact h5
     | frozen _ _=>rw [hrk] at h5; exact h5
     | last _ _ _ _ _=>rw [hrk] at h5; exact h5.elim
     | mid _ _ _ _ _=>rw [hrk] at h5; exact h5.elim
     | map _ _=>rw [hrk] at h5; exact h5.elim
     | iter _ _ _ _=>rw [hrk] at h5; exact h5.elim
   | mid _ _ _ _ _=>rw [hr] at hblk; exact hblk
   | map t xs=>
    rw [hr] at r hblk
    obtain ⟨b,es,clock,h1,h2,h3⟩:=r
    exact ⟨b,es,clock,hblk.trans h1,hhdr.trans h2,h3⟩
   | iter t xs seen cur=>
    rw [hr] at r hblk
    obtain ⟨b,r,es,clock,since,c0,sn,h1,h2,h3,h4,h5,h6⟩:=r
    exact ⟨b,r,es,clock,since,c0,sn,hblk.trans h1,hhdr.trans h2,h3,hSS b h4 h5,h5,h6⟩
 ·obtain ⟨i0,e1,e2,_⟩:=blk_of i b hi
  obtain ⟨j0,e3,e4,_⟩:=blk_of j b hj
  have:=h.inj i0 j0 b e2 e4
  subst this
  have hil:=(List.getElem?_eq_some_iff.1 e1).1
  exact (List.getElem?_inj hil hnd).1 (e1.trans e3.symm)
 ·obtain ⟨id,e1,e2,_⟩:=blk_of j b hb
  exact h.lt id b e2
 ·obtain ⟨id,k1,k2,k3⟩:=i7 hs h1 h2
  obtain ⟨p1,p2,p3⟩:=h.inn id b k2 k3
  refine ⟨p1,fun j' hb=>?_,fun j' hne hn hi=>?_⟩
  ·obtain ⟨id',_,e2,_⟩:=blk_of j' b hb
   exact p2 id' e2
  ·obtain ⟨id',q1,q2,q3⟩:=i7 hs hn hi
   refine p3 id' (fun e=>?_) q2 q3
   subst e
   exact hne ((List.getElem?_inj (List.getElem?_eq_some_iff.1 q1).1 hnd).1 (q1.trans k1.symm))
 ·have hu:=hpin id hid
  have hsr:s'.res id=Bj s us (s.res id):=by rw [hs,hu]
  have hb:(Fc s us g).blk id=if (Bj s us (s.res id)).live then g.blk id else none:=by simp only [Fc,hu]
  have hh:(Fc s us g).hdr id=g.hdr id:=by simp only [Fc,hu]
  refine ⟨fun hq=>?_,fun T ls hq=>?_,fun e t xs hq=>?_,fun hq=>?_⟩
  rotate_left 3
  ·rw [hsr] at hq
   have hl:(Bj s us (s.res id)).live=true:=by
    cases hk:Bj s us (s.res id)<;>rw [hk] at hq<;>first | rfl | cases hq
   rw [if_pos hl] at hb
   refine ⟨?_,hb,hh⟩
   cases hr:s.res id with
   | unborn=>rw [hr] at hq; cases hq
   | box T ls=>
    rw [hr] at hq
    simp only [Bj] at hq
    split at hq<;>cases hq
   | dead=>rw [hr] at hq; cases hq
   | row e t xs=>rw [hr] at hq; cases hq
   | frozen t xs=>rw [hr] at hq; cases hq
   | last _ _ _ _ _=>rfl
   | mid _ _ _ _ _=>rfl
   | map _ _=>rw [hr] at hq; cases hq
   | iter _ _ _ _=>rw [hr] at hq; cases hq
  ·rw [hsr] at hq
   cases hr:s.res id with
   | unborn=>rfl
   | box T ls=>
    rw [hr] at hq
    simp only [Bj] at hq
    split at hq<;>cases hq
   | dead=>rw [hr] at hq; cases hq
   | row e t xs=>rw [hr] at hq; cases hq
   | frozen t xs=>rw [hr] at hq; cases hq
   | last _ _ _ _ _=>
    rw [hr] at hq
    simp only [Bj] at hq
    split at hq<;>cases hq
   | mid _ _ _ _ _=>rw [hr] at hq; cases hq
   | map _ _=>rw [hr] at hq; cases hq
   | iter _ _ _ _=>rw [hr] at hq; cases hq
  ·rw [hsr] at hq
   rw [hq] at hb
   refine ⟨?_,hb⟩
   cases hr:s.res id with
   | unborn=>rw [hr] at hq; cases hq
   | box T ls=>exact ⟨T,ls,rfl⟩
   | dead=>rw [hr] at hq; cases hq
   | row e t xs=>rw [hr] at hq; cases hq
   | frozen t xs=>rw [hr] at hq; cases hq
   | last _ _ _ _ _=>
    rw [hr] at hq
    simp only [Bj] at hq
    split at hq<;>cases hq
   | mid _ _ _ _ _=>rw [hr] at hq; cases hq
   | map _ _=>rw [hr] at hq; cases hq
   | iter _ _ _ _=>rw [hr] at hq; cases hq
  ·rw [hsr] at hq
   rw [hq] at hb
   refine ⟨?_,hb,hh⟩
   cases hr:s.res id with
   | unborn=>rw [hr] at hq; cases hq
   | box T ls=>
    rw [hr] at hq
    simp only [Bj] at hq
    split at hq<;>cases hq
   | dead=>rw [hr] at hq; cases hq
   | row e t xs=>rw [hr] at hq; cases hq; exact ⟨e,xs,rfl⟩
   | frozen t xs=>rw [hr] at hq; cases hq
   | last _ _ _ _ _=>
    rw [hr] at hq
    simp only [Bj] at hq
    split at hq<;>cases hq
   | mid _ _ _ _ _=>rw [hr] at hq; cases hq
   | map _ _=>rw [hr] at hq; cases hq
   | iter _ _ _ _=>rw [hr] at hq; cases hq
end
end
section
inductive Pe where
 | d (t:Ty)
 | row (id:Nat)
 | ptr (id off:Nat)
 | sp (id:Nat)
inductive Pv where
 | dead
 | lf (p:Pe)
 | ag (ps:List Pe)
 | fn (f:FuncId) (ps:List Pe)
inductive Pr where
 | dead
 | unborn
 | box (T:TypeId) (ps:List Pe)
 | row (e:TypeId) (t:Ty)
 | last (e:NE) (t:Ty) (j:Nat)
 | map (t:Ty)
 | iter (t:Ty)
inductive Fx where
 | sl (slot ix:Nat) (t:Ty)
 | row (slot ix:Nat) (e:TypeId) (t:Ty)
 | boxSl (slot ix:Nat) (t:Ty)
 | boxRow (slot ix:Nat) (e:TypeId) (t:Ty)
 | self (slot ix:Nat)
 | last (slot:Nat) (e:TypeId) (t:Ty)
 | lastU (slot:Nat) (e:TypeId) (t:Ty)
 | back (slot:Nat)
structure D9 where
 fx:List Fx
 cs:List (Nat×Pv)
 rs:List Pr
def Xg:List Pe→Type→Type
 | [],X=>X
 | .d t::r,X=>t.D×Xg r X
 | .row _::r,X=>Xg r X
 | .ptr _ _::r,X=>Xg r X
 | .sp _::r,X=>Xg r X
def PvD:Pv→Type→Type
 | .dead,X=>X
 | .lf p,X=>Xg [p] X
 | .ag ps,X=>Xg ps X
 | .fn _ ps,X=>Xg ps X
def CsD:List (Nat×Pv)→Type→Type
 | [],X=>X
 | p::r,X=>PvD p.2 (CsD r X)
def PrD:Pr→Type→Type
 | .dead,X=>X
 | .unborn,X=>X
 | .box _ ps,X=>Xg ps X
 | .row _ t,X=>List t.D×X
 | .last _ t _,X=>List (List t.D)×Bool×X
 | .map t,X=>List (Aj×t.D)×X
 | .iter t,X=>List (Aj×t.D)×List (Aj×t.D)×Option (Aj×t.D)×X
def RsD:List Pr→Type→Type
 | [],X=>X
 | p::r,X=>PrD p (RsD r X)
def D9.D (p:D9):Type:=CsD p.cs (RsD p.rs Unit)
section
variable {X:Type}
def At:(ps:List Pe)→Xg ps X→List Lf×X
 | [],d=>([],d)
 | .d t::r,d=>(t.leafs d.1++(At r d.2).1,(At r d.2).2)
 | .row id::r,d=>(.row id::(At r d).1,(At r d).2)
 | .ptr id off::r,d=>(.ptr id off::(At r d).1,(At r d).2)
 | .sp id::r,d=>(.sp id::(At r d).1,(At r d).2)
def Ae6:List Lf→AV
 | [l]=>.vl (.lf l)
 | _=>.dead
def J1:(p:Pv)→PvD p X→AV×X
 | .dead,d=>(.dead,d)
 | .lf p,d=>(Ae6 (At [p] d).1,(At [p] d).2)
 | .ag ps,d=>(.vl (.ag (At ps d).1),(At ps d).2)
 | .fn f ps,d=>(.fn f (At ps d).1,(At ps d).2)
def J2:(l:List (Nat×Pv))→CsD l X→List (Nat×AV)×X
 | [],d=>([],d)
 | p::r,d=>((p.1,(J1 p.2 d).1)::(J2 r (J1 p.2 d).2).1,(J2 r (J1 p.2 d).2).2)
def K3:(p:Pr)→PrD p X→Dj×X
 | .dead,d=>(.dead,d)
 | .unborn,d=>(.unborn,d)
 | .box T ps,d=>(.box T (At ps d).1,(At ps d).2)
 | .row e t,d=>(.row e t d.1,d.2)
 | .last e t j,d=>(.last e t d.1 d.2.1 j,d.2.2)
 | .map t,d=>(.map t d.1,d.2)
 | .iter t,d=>(.iter t d.1 d.2.1 d.2.2.1,d.2.2.2)
def Mi:(l:List Pr)→RsD l X→List Dj×X
 | [],d=>([],d)
 | p::r,d=>((K3 p d).1::(Mi r (K3 p d).2).1,(Mi r (K3 p d).2).2)
end
def D9.st (p:D9) (d:p.D):St:=u3 (J2 p.cs d).1 (Mi p.rs (J2 p.cs d).2).1
def D9.nid (p:D9):Nat:=p.rs.length
def Aar:(t:Ty)→Lf→Option t.D
 | .int k,.c (.int k' n)=>if k'=k then some n else none
 | .bool,.c (.bool b)=>some b
 | .str,.c (.string b)=>some b
 | .sl t,.sl t' xs=>if h:t'=t then some (h ▸ xs) else none
 | _,_=>none
def Km:(t:Ty)→List Lf→Option (t.D×List Lf)
 | .unit,ls=>some ((),ls)
 | .pair a b,ls=>(Km a ls).bind fun p=>(Km b p.2).bind fun q=>some ((p.1,q.1),q.2)
 | .int k,l::r=>(Aar (.int k) l).bind fun x=>some (x,r)
 | .bool,l::r=>(Aar .bool l).bind fun x=>some (x,r)
 | .str,l::r=>(Aar .str l).bind fun x=>some (x,r)
 | .sl t,l::r=>(Aar (.sl t) l).bind fun x=>some (x,r)
 | _,[]=>none
def i8 (id:Nat):List Lf→Option (List Lf)
 | .row j::r=>if j=id then some r else none
 | _=>none
def i9 (id off:Nat):List Lf→Option (List Lf)
 | .ptr j o::r=>if j=id then (if o=off then some r else none) else none
 | _=>none
def Aas (id:Nat):List Lf→Option (List Lf)
 | .sp j::r=>if j=id then some r else none
 | _=>none
def Aiu {X:Type} (k:Option X):List Lf→Option X
 | []=>k
 | _::_=>none
section
variable {X:Type} (k:Option X)
def Gr:(ps:List Pe)→List Lf→Option (Xg ps X)
 | [],ls=>Aiu k ls
 | .d t::r,ls=>(Km t ls).bind fun p=>(Gr r p.2).bind fun q=>some (p.1,q)
 | .row id::r,ls=>(i8 id ls).bind fun ls'=>Gr r ls'
 | .ptr id off::r,ls=>(i9 id off ls).bind fun ls'=>Gr r ls'
 | .sp id::r,ls=>(Aas id ls).bind fun ls'=>Gr r ls'
def Ajg:AV→Option (List Lf)
 | .vl (.ag ls)=>some ls
 | _=>none
def Aiv (f:FuncId):AV→Option (List Lf)
 | .fn f' ls=>if f'=f then some ls else none
 | _=>none
def Ajh:AV→Option Lf
 | .vl (.lf l)=>some l
 | _=>none
def Ah6:AV→Option Unit
 | .dead=>some ()
 | _=>none
def Ae7:(p:Pv)→AV→Option (PvD p X)
 | .dead,v=>(Ah6 v).bind fun _=>k
 | .lf p,v=>(Ajh v).bind fun l=>Gr k [p] [l]
 | .ag ps,v=>(Ajg v).bind fun ls=>Gr k ps ls
 | .fn f ps,v=>(Aiv f v).bind fun ls=>Gr k ps ls
def Ahe (T:TypeId):Dj→Option (List Lf)
 | .box T' ls=>if T'=T then some ls else none
 | _=>none
def u5 (e:TypeId) (t:Ty):Dj→Option (List t.D)
 | .row e' t' xs=>if e'=e then (if h:t'=t then some (h ▸ xs) else none) else none
 | _=>none
def Ae8 (e:NE) (t:Ty) (j:Nat):Dj→Option (List (List t.D)×Bool)
 | .last e' t' xs c j'=>if e'=e then (if j'=j then (if h:t'=t then some (h ▸ xs,c) else none) else none) else none
 | _=>none
def Ahf (t:Ty):Dj→Option (List (Aj×t.D))
 | .map t' xs=>if h:t'=t then some (h ▸ xs) else none
 | _=>none
def Ae9 (t:Ty):Dj→Option (List (Aj×t.D)×List (Aj×t.D)×Option (Aj×t.D))
 | .iter t' xs seen cur=>if h:t'=t then some (h ▸ xs,h ▸ seen,h ▸ cur) else none
 | _=>none
def Agq:Dj→Option Unit
 | .dead=>some ()
 | _=>none
def Ac6:Dj→Option Unit
 | .unborn=>some ()
 | _=>none
def Ahg:(p:Pr)→Dj→Option (PrD p X)
 | .dead,v=>(Agq v).bind fun _=>k
 | .unborn,v=>(Ac6 v).bind fun _=>k
 | .box T ps,v=>(Ahe T v).bind fun ls=>Gr k ps ls
 | .row e t,v=>(u5 e t v).bind fun xs=>k.bind fun x=>some (xs,x)
 | .last e t j,v=>(Ae8 e t j v).bind fun xs=>k.bind fun x=>some (xs.1,xs.2,x)
 | .map t,v=>(Ahf t v).bind fun xs=>k.bind fun x=>some (xs,x)
 | .iter t,v=>(Ae9 t v).bind fun xs=>k.bind fun x=>some (xs.1,xs.2.1,xs.2.2,x)
end
def Aiw {X:Type} (k:Option X) {α:Type}:List α→Option X
 | []=>k
 | _::_=>none
def Ah7 {α:Type}:List α→Option (α×List α)
 | []=>none
 | a::r=>some (a,r)
def u6 {X:Type} (k:Option X):(l:List (Nat×Pv))→List (Nat×AV)→Option (CsD l X)
 | [],cs=>Aiw k cs
 | p::r,cs=>(Ah7 cs).bind fun q=>if q.1.1=p.1 then Ae7 (u6 k r q.2) p.2 q.1.2 else none
def Ab5 {X:Type} (k:Option X):(l:List Pr)→List Dj→Option (RsD l X)
 | [],rs=>Aiw k rs
 | p::r,rs=>(Ah7 rs).bind fun q=>Ahg (Ab5 k r q.2) p q.1
theorem Kn {α β:Type} {a a':α} {b b':β} (h1:a=a') (h2:b=b'):(a,b)=(a',b'):=by rw [h1,h2]
theorem Aat:∀ {t:Ty} {l:Lf} {x:t.D},Aar t l=some x→t.leafs x=[l]:=by
 intro t l x h
 unfold Aar at h
 split at h
 ·split at h<;>cases h
  rename_i hk
  subst hk
  rfl
 ·cases h; rfl
 ·cases h; rfl
 ·split at h<;>cases h
  rename_i hk
  subst hk
  rfl
 ·cases h
theorem j5:∀ {t:Ty} {ls:List Lf} {x:t.D} {r:List Lf},Km t ls=some (x,r)→ls=t.leafs x++r:=by
 have one:∀ {t:Ty} {l:Lf} {r0 r:List Lf} {x:t.D},((Aar t l).bind fun x=>some (x,r0))=some (x,r)→l::r0=t.leafs x++r:=by
  intro t l r0 r x h
  obtain ⟨y,h1,h2⟩:=Al h
  cases h2
  rw [Aat h1]
  rfl
 intro t
 induction t with
 | unit=>intro ls x r h; simp only [Km] at h; cases h; rfl
 | pair a b iha ihb=>
  intro ls x r h
  simp only [Km] at h
  obtain ⟨p,h1,h2⟩:=Al h
  obtain ⟨q,h3,h4⟩:=Al h2
  cases h4
  have e1:=iha (x:=p.1) (r:=p.2) h1
  have e2:=ihb (x:=q.1) (r:=q.2) h3
  rw [e1,e2,← List.append_assoc]
  rfl
 | int k=>intro ls x r h; cases ls with
  | nil=>simp [Km] at h
  | cons l ls=>exact one h
 | bool=>intro ls x r h; cases ls with
  | nil=>simp [Km] at h
  | cons l ls=>exact one h
 | str=>intro ls x r h; cases ls with
  | nil=>simp [Km] at h
  | cons l ls=>exact one h
 | sl t _=>intro ls x r h; cases ls with
  | nil=>simp [Km] at h
  | cons l ls=>exact one h
theorem Aau {id:Nat} {ls r:List Lf} (h:i8 id ls=some r):ls=.row id::r:=by
 unfold i8 at h
 split at h
 ·split at h<;>cases h
  rename_i hj
  rw [hj]
 ·cases h
theorem Ac7 {id:Nat} {ls r:List Lf} (h:Aas id ls=some r):ls=.sp id::r:=by
 unfold Aas at h
 split at h
 ·split at h<;>cases h
  rename_i hj
  rw [hj]
 ·cases h
theorem Aav {id off:Nat} {ls r:List Lf} (h:i9 id off ls=some r):ls=.ptr id off::r:=by
 unfold i9 at h
 split at h
 ·split at h
  ·rename_i hj
   split at h<;>cases h
   rename_i ho
   rw [hj,ho]
  ·cases h
 ·cases h
section
variable {X:Type} {k:Option X}
theorem Eu:∀ {ps:List Pe} {ls:List Lf} {d:Xg ps X},Gr k ps ls=some d→∃ x,k=some x∧At ps d=(ls,x)
 | [],ls,d,h=>by
  cases ls with
  | nil=>exact ⟨d,h,rfl⟩
  | cons l ls=>cases h
 | .d t::r,ls,d,h=>by
  simp only [Gr] at h
  obtain ⟨p,h1,h2⟩:=Al h
  obtain ⟨q,h3,h4⟩:=Al h2
  cases h4
  obtain ⟨x,e1,e2⟩:=Eu h3
  refine ⟨x,e1,?_⟩
  show (t.leafs p.1++(At r q).1,(At r q).2)=_
  rw [e2,j5 (x:=p.1) (r:=p.2) h1]
 | .row id::r,ls,d,h=>by
  simp only [Gr] at h
  obtain ⟨ls',h1,h2⟩:=Al h
  obtain ⟨x,e1,e2⟩:=Eu (ps:=r) (d:=d) h2
  refine ⟨x,e1,?_⟩
  show (Lf.row id::(At r d).1,(At r d).2)=_
  have e2':At r (X:=X) d=(ls',x):=e2
  rw [Aau h1]
  have a1:(At r (X:=X) d).1=ls':=congrArg Prod.fst e2'
  have a2:(At r (X:=X) d).2=x:=congrArg Prod.snd e2'
  exact Kn (congrArg (List.cons (Lf.row id)) a1) a2
 | .ptr id off::r,ls,d,h=>by
  simp only [Gr] at h
  obtain ⟨ls',h1,h2⟩:=Al h
  obtain ⟨x,e1,e2⟩:=Eu (ps:=r) (d:=d) h2
  refine ⟨x,e1,?_⟩
  show (Lf.ptr id off::(At r d).1,(At r d).2)=_
  have e2':At r (X:=X) d=(ls',x):=e2
  rw [Aav h1]
  have a1:(At r (X:=X) d).1=ls':=congrArg Prod.fst e2'
  have a2:(At r (X:=X) d).2=x:=congrArg Prod.snd e2'
  exact Kn (congrArg (List.cons (Lf.ptr id off)) a1) a2
 | .sp id::r,ls,d,h=>by
  simp only [Gr] at h
  obtain ⟨ls',h1,h2⟩:=Al h
  obtain ⟨x,e1,e2⟩:=Eu (ps:=r) (d:=d) h2
  refine ⟨x,e1,?_⟩
  show (Lf.sp id::(At r d).1,(At r d).2)=_
  have e2':At r (X:=X) d=(ls',x):=e2
  rw [Ac7 h1]
  have a1:(At r (X:=X) d).1=ls':=congrArg Prod.fst e2'
  have a2:(At r (X:=X) d).2=x:=congrArg Prod.snd e2'
  exact Kn (congrArg (List.cons (Lf.sp id)) a1) a2
theorem Ac8 {p:Pv} {v:AV} {d:PvD p X} (h:Ae7 k p v=some d):∃ x,k=some x∧J1 p d=(v,x):=by
 cases p with
 | dead=>
  obtain ⟨u,h1,h2⟩:=Al h
  cases v<;>first | (cases h1; done) | skip
  exact ⟨d,h2,rfl⟩
 | lf p=>
  obtain ⟨l,h1,h2⟩:=Al h
  have hv:v=.vl (.lf l):=by
   cases v with
   | vl w=>cases w with
    | lf l'=>cases h1; rfl
    | ag ls=>cases h1
   | dead=>cases h1
   | tp vs=>cases h1
   | fn f ls=>cases h1
  subst hv
  obtain ⟨x,e1,e2⟩:=Eu (ps:=[p]) (d:=d) h2
  refine ⟨x,e1,?_⟩
  show (Ae6 (At [p] d).1,(At [p] d).2)=_
  have e2':At [p] (X:=X) d=([l],x):=e2
  have a1:(At [p] (X:=X) d).1=[l]:=congrArg Prod.fst e2'
  have a2:(At [p] (X:=X) d).2=x:=congrArg Prod.snd e2'
  exact Kn (congrArg Ae6 a1) a2
 | ag ps=>
  obtain ⟨l,h1,h2⟩:=Al h
  have hv:v=.vl (.ag l):=by
   cases v with
   | vl w=>cases w with
    | lf l'=>cases h1
    | ag ls=>cases h1; rfl
   | dead=>cases h1
   | tp vs=>cases h1
   | fn f ls=>cases h1
  subst hv
  obtain ⟨x,e1,e2⟩:=Eu (ps:=ps) (d:=d) h2
  refine ⟨x,e1,?_⟩
  show (AV.vl (.ag (At ps d).1),(At ps d).2)=_
  have e2':At ps (X:=X) d=(l,x):=e2
  have a1:(At ps (X:=X) d).1=l:=congrArg Prod.fst e2'
  have a2:(At ps (X:=X) d).2=x:=congrArg Prod.snd e2'
  exact Kn (congrArg (fun l=>AV.vl (.ag l)) a1) a2
 | fn f ps=>
  obtain ⟨l,h1,h2⟩:=Al h
  have hv:v=.fn f l:=by
   cases v with
   | vl w=>cases h1
   | dead=>cases h1
   | tp vs=>cases h1
   | fn f' ls=>
    simp only [Aiv] at h1
    split at h1<;>cases h1
    rename_i hf
    rw [hf]
  subst hv
  obtain ⟨x,e1,e2⟩:=Eu (ps:=ps) (d:=d) h2
  refine ⟨x,e1,?_⟩
  show (AV.fn f (At ps d).1,(At ps d).2)=_
  have e2':At ps (X:=X) d=(l,x):=e2
  have a1:(At ps (X:=X) d).1=l:=congrArg Prod.fst e2'
  have a2:(At ps (X:=X) d).2=x:=congrArg Prod.snd e2'
  exact Kn (congrArg (fun l=>AV.fn f l) a1) a2
theorem Ac9 {p:Pr} {v:Dj} {d:PrD p X} (h:Ahg k p v=some d):∃ x,k=some x∧K3 p d=(v,x):=by
 cases p with
 | dead=>
  obtain ⟨u,h1,h2⟩:=Al h
  cases v<;>first | (cases h1; done) | skip
  exact ⟨d,h2,rfl⟩
 | unborn=>
  obtain ⟨u,h1,h2⟩:=Al h
  cases v<;>first | (cases h1; done) | skip
  exact ⟨d,h2,rfl⟩
 | box T ps=>
  obtain ⟨ls,h1,h2⟩:=Al h
  have hv:v=.box T ls:=by
   unfold Ahe at h1
   split at h1
   ·split at h1<;>cases h1
    rename_i hT
    rw [hT]
   ·cases h1
  subst hv
  obtain ⟨x,e1,e2⟩:=Eu (ps:=ps) (d:=d) h2
  refine ⟨x,e1,?_⟩
  show (Dj.box T (At ps d).1,(At ps d).2)=_
  have e2':At ps (X:=X) d=(ls,x):=e2
  have a1:(At ps (X:=X) d).1=ls:=congrArg Prod.fst e2'
  have a2:(At ps (X:=X) d).2=x:=congrArg Prod.snd e2'
  exact Kn (congrArg (Dj.box T) a1) a2
 | row e t=>
  obtain ⟨xs,h1,h2⟩:=Al h
  obtain ⟨x,h3,h4⟩:=Al h2
  have hv:v=.row e t xs:=by
   unfold u5 at h1
   split at h1
   ·split at h1
    ·rename_i he
     split at h1<;>cases h1
     rename_i ht
     subst he ht
     rfl
    ·cases h1
   ·cases h1
  subst hv
  have hd:d=(xs,x):=(Option.some.inj h4).symm
  subst hd
  exact ⟨x,h3,rfl⟩
 | last e t j=>
  obtain ⟨xs,h1,h2⟩:=Al h
  obtain ⟨x,h3,h4⟩:=Al h2
  have hv:v=.last e t xs.1 xs.2 j:=by
   unfold Ae8 at h1
   split at h1
   ·split at h1
    ·rename_i he
     split at h1
     ·rename_i hj
      split at h1<;>cases h1
      rename_i ht
      subst he ht hj
      rfl
     ·cases h1
    ·cases h1
   ·cases h1
  subst hv
  have hd:d=(xs.1,xs.2,x):=(Option.some.inj h4).symm
  subst hd
  exact ⟨x,h3,rfl⟩
 | map t=>
  obtain ⟨xs,h1,h2⟩:=Al h
  obtain ⟨x,h3,h4⟩:=Al h2
  have hv:v=.map t xs:=by
   unfold Ahf at h1
   split at h1
   ·split at h1<;>cases h1
    rename_i ht
    subst ht
    rfl
   ·cases h1
  subst hv
  have hd:d=(xs,x):=(Option.some.inj h4).symm
  subst hd
  exact ⟨x,h3,rfl⟩
 | iter t=>
  obtain ⟨xs,h1,h2⟩:=Al h
  obtain ⟨x,h3,h4⟩:=Al h2
  have hv:v=.iter t xs.1 xs.2.1 xs.2.2:=by
   unfold Ae9 at h1
   split at h1
   ·split at h1<;>cases h1
    rename_i ht
    subst ht
    rfl
   ·cases h1
  subst hv
  have hd:d=(xs.1,xs.2.1,xs.2.2,x):=(Option.some.inj h4).symm
  subst hd
  exact ⟨x,h3,rfl⟩
end
theorem Ab6 {α:Type} {l:List α} {q:α×List α} (h:Ah7 l=some q):l=q.1::q.2:=by
 cases l with
 | nil=>cases h
 | cons a r=>cases h; rfl
theorem Zo {X:Type} {k:Option X}:∀ {l:List (Nat×Pv)} {cs:List (Nat×AV)} {d:CsD l X},u6 k l cs=some d→∃ x,k=some x∧J2 l d=(cs,x)
 | [],cs,d,h=>by
  cases cs with
  | nil=>exact ⟨d,h,rfl⟩
  | cons l ls=>cases h
 | p::r,cs,d,h=>by
  simp only [u6] at h
  obtain ⟨q,h1,h2⟩:=Al h
  rw [Ab6 h1]
  have h2:(if q.1.1=p.1 then Ae7 (u6 k r q.2) p.2 q.1.2 else none:Option (PvD p.2 (CsD r X)))=some d:=h2
  split at h2
  ·rename_i hi
   obtain ⟨y,e1,e2⟩:=Ac8 (d:=d) h2
   obtain ⟨x,e3,e4⟩:=Zo e1
   refine ⟨x,e3,?_⟩
   show ((p.1,(J1 p.2 d).1)::(J2 r (J1 p.2 d).2).1,(J2 r (J1 p.2 d).2).2)=_
   have e2':J1 p.2 (X:=CsD r X) d=(q.1.2,y):=e2
   have a1:(J1 p.2 (X:=CsD r X) d).1=q.1.2:=congrArg Prod.fst e2'
   have a2:(J1 p.2 (X:=CsD r X) d).2=y:=congrArg Prod.snd e2'
   have a3:J2 r (J1 p.2 (X:=CsD r X) d).2=(q.2,x):=(congrArg (J2 r) a2).trans e4
   have a4:(J2 r (J1 p.2 (X:=CsD r X) d).2).1=q.2:=congrArg Prod.fst a3
   have a5:(J2 r (J1 p.2 (X:=CsD r X) d).2).2=x:=congrArg Prod.snd a3
   have a6:(p.1,(J1 p.2 (X:=CsD r X) d).1)=q.1:=(Kn hi.symm a1).trans rfl
   exact Kn (congr (congrArg List.cons a6) a4) a5
  ·cases h2
theorem Zp {X:Type} {k:Option X}:∀ {l:List Pr} {rs:List Dj} {d:RsD l X},Ab5 k l rs=some d→∃ x,k=some x∧Mi l d=(rs,x)
 | [],rs,d,h=>by
  cases rs with
  | nil=>exact ⟨d,h,rfl⟩
  | cons l ls=>cases h
 | p::r,rs,d,h=>by
  simp only [Ab5] at h
  obtain ⟨q,h1,h2⟩:=Al h
  rw [Ab6 h1]
  obtain ⟨y,e1,e2⟩:=Ac9 (d:=d) h2
  obtain ⟨x,e3,e4⟩:=Zp e1
  refine ⟨x,e3,?_⟩
  show ((K3 p d).1::(Mi r (K3 p d).2).1,(Mi r (K3 p d).2).2)=_
  have e2':K3 p (X:=RsD r X) d=(q.1,y):=e2
  have a1:(K3 p (X:=RsD r X) d).1=q.1:=congrArg Prod.fst e2'
  have a2:(K3 p (X:=RsD r X) d).2=y:=congrArg Prod.snd e2'
  have a3:Mi r (K3 p (X:=RsD r X) d).2=(q.2,x):=(congrArg (Mi r) a2).trans e4
  have a4:(Mi r (K3 p (X:=RsD r X) d).2).1=q.2:=congrArg Prod.fst a3
  have a5:(Mi r (K3 p (X:=RsD r X) d).2).2=x:=congrArg Prod.snd a3
  exact Kn (congr (congrArg List.cons a1) a4) a5
def Ab7:Lf→Bool
 | .c (.slice none 0 0)=>true
 | _=>false
def Zq (v:Vl) (i:Nat) (l:Lf):Vl:=match v with
 | .lf l0=>if i=0 then .lf l else .lf l0
 | .ag ls=>.ag (ls.set i l)
def Zr (ls:List Lf) (i:Nat):Bool:=match ls[i]? with
 | some l=>Ab7 l
 | none=>false
def Afa (id:Nat) (ls:List Lf) (i:Nat):Bool:=match ls[i]? with
 | some (.c (.pointer none))=>true
 | some (.ptr j 0)=>Nat.beq j id
 | _=>false
def Agr (u:Bool) (t tt:Ty) (xs:List tt.D):Option (List (Vf u t).D):=if h:tt=Vf u t then some (h ▸ xs) else none
theorem u7 {u:Bool} {t tt:Ty} {xs:List tt.D} (h:Agr u t tt xs=some []):∃ e:tt=Vf u t,xs=e.symm ▸ ([]:List (Vf u t).D):=by
 unfold Agr at h
 split at h
 ·rename_i e
  subst e
  exact ⟨rfl,Option.some.inj h⟩
 ·cases h
def Vx (s:St) (nid slot:Nat) (e1:TypeId) (u:Bool) (t:Ty):Option (St×Nat):=match s.cell slot with
 | .vl (.lf (.row id))=>match s.res id with
  | .row e tt xs=>match Agr u t tt xs,s.res nid,s.res (nid + 1) with
   | some [],.unborn,.unborn=>some (((Bv (s.setRes (nid + 1) (.row e1 t [])) (some id)).setRes nid (.last ⟨e,e1,u⟩ t [] false (nid + 1))).setCell slot (.vl (.lf (.row nid))),nid + 2)
   | _,_,_=>none
  | _=>some (s,nid)
 | _=>some (s,nid)
def j6 (s:St) (nid slot:Nat):Option (St×Nat):=match s.cell slot with
 | .vl (.lf (.row id))=>match s.res id with
  | .mid e t xs i j=>match s.res j with
   | .row ej tj ys=>if h:tj=t then (if ej=e.i then some ((s.setRes j .dead).setRes id (.last e t (List.set xs i (h ▸ ys)) false id),nid) else none) else none
   | _=>none
  | _=>some (s,nid)
 | _=>some (s,nid)
def Aaw (s:St) (nid:Nat):Fx→Option (St×Nat)
 | .sl slot i t=>match s.cell slot with
  | .vl v=>if Zr v.ls i then some (s.setCell slot (.vl (Zq v i (.sl t []))),nid) else some (s.frz (v.ls[i]?).toList,nid)
  | _=>some (s,nid)
 | .row slot i e t=>match s.cell slot with
  | .vl v=>if Zr v.ls i then (match s.res nid with
   | .unborn=>some ((s.setRes nid (.row e t [])).setCell slot (.vl (Zq v i (.row nid))),nid + 1)
   | _=>none) else some (s,nid)
  | _=>some (s,nid)
 | .boxSl slot i t=>match s.cell slot with
  | .vl (.lf (.ptr id 0))=>match s.res id with
   | .box T ls=>if Zr ls i then some (s.setRes id (.box T (ls.set i (.sl t []))),nid) else some (s.frz (ls[i]?).toList,nid)
   | _=>some (s,nid)
  | _=>some (s,nid)
 | .boxRow slot i e t=>match s.cell slot with
  | .vl (.lf (.ptr id 0))=>match s.res id with
   | .box T ls=>if Zr ls i then (match s.res nid with
    | .unborn=>some ((s.setRes nid (.row e t [])).setRes id (.box T (ls.set i (.row nid))),nid + 1)
    | _=>none) else some (s,nid)
   | _=>some (s,nid)
  | _=>some (s,nid)
 | .self slot i=>match s.cell slot with
  | .vl (.lf (.ptr id 0))=>match s.res id with
   | .box T ls=>if Afa id ls i then some (s.setRes id (.box T (ls.set i (.sp id))),nid) else some (s,nid)
   | _=>some (s,nid)
  | _=>some (s,nid)
 | .last slot e1 t=>Vx s nid slot e1 false t
 | .lastU slot e1 t=>Vx s nid slot e1 true t
 | .back slot=>j6 s nid slot
def Ab8 (s:St) (nid:Nat):List Fx→Option (St×Nat)
 | []=>some (s,nid)
 | f::r=>(Aaw s nid f).bind fun p=>Ab8 p.1 p.2 r
def Vy:List (Nat×Pv)→List Nat
 | []=>[]
 | p::r=>p.1::Vy r
def Afb (np:Nat) (live:List Nat) (s:St):Option (List (Nat×AV)×List Dj):=
 let us:=Vv s np live
 if Ir us&&O1 0 np us then some (i6 s us live,Yw s us us) else none
def D9.mtch (np:Nat) (p:D9) (s:St) (nid:Nat):Option p.D:=
 (Ab8 s nid p.fx).bind fun q=>(Afb np (Vy p.cs) q.1).bind fun l=>u6 (Ab5 (some ()) p.rs l.2) p.cs l.1
section
variable {P:Program} {n B:Nat} {Iq:List Nat} {s:St} {g:Gh} {a:Act} {w:World}
theorem O2 {ls:List Lf} {i:Nat} (h:Zr ls i=true):ls[i]? = some (.c (.slice none 0 0)):=by
 unfold Zr at h
 split at h
 ·rename_i l hl
  unfold Ab7 at h
  split at h
  ·exact hl
  ·cases h
 ·cases h
theorem Ab9 {s':St} {g':Gh} {v:Vl} {i:Nat} {l:Lf} {u:Value} (hv:P1 s' g' w v u) (hn:v.ls[i]? = some (.c (.slice none 0 0))) (hl:A7 s' g' w l (.slice none 0 0)):P1 s' g' w (Zq v i l) u:=by
 cases v with
 | lf l0=>
  unfold Zq
  simp only
  split
  ·rename_i hi
   subst hi
   simp [Vl.ls] at hn
   subst hn
   obtain ⟨h1,h2⟩:=hv
   have h1':u=.slice none 0 0:=h1
   subst h1'
   exact ⟨hl,rfl⟩
  ·exact hv
 | ag ls=>
  obtain ⟨cs,e1,e2⟩:=hv
  obtain ⟨v0,q1,q2,q3⟩:=e2.get hn
  have q2':v0=.slice none 0 0:=q2
  subst q2'
  refine ⟨cs,e1,?_⟩
  have hset:cs.toList.set i (.slice none 0 0)=cs.toList:=by
   apply List.ext_getElem?
   intro j
   by_cases q:i=j
   ·subst q
    rw [List.getElem?_set_self (List.getElem?_eq_some_iff.1 q1).1,q1]
   ·rw [List.getElem?_set_ne q]
  have:=e2.set (j:=i) (v:=.slice none 0 0) hl rfl
  rw [hset] at this
  exact this
theorem Zs (s:St) (g:Gh) (w:World) (t:Ty):A7 s g w (.sl t []) (.slice none 0 0):=⟨none,0,rfl,Nat.le_refl _,fun i x hx=>by simp [y7] at hx⟩
theorem Xh (h:As n B Iq s g a w) {slot:Nat} {av:AV} (hv:Jn s g w av (a.tmps.getD slot undef)):As n B Iq (s.setCell slot av) g a w∧Go B Iq s g w (s.setCell slot av) g w:=by
 have hS:∀ b,By s g b→b < w.heap.size→By (s.setCell slot av) g b∧w.heap[b]? = w.heap[b]? := fun b hb _=>⟨hb,rfl⟩
 have hI:∀ id,Ag s g (s.setCell slot av) g id:=fun id=>Ag.same rfl rfl rfl
 refine ⟨h.step h.size h.defers (Nat.le_refl _) hS hI (fun i=>?_) (fun id=>.inl ⟨rfl,rfl,rfl,fun _ _=>rfl⟩) h.inj h.lt rfl (NK.alike h rfl),⟨Kp.refl B Iq w,hS,hI,rfl⟩⟩
 by_cases q:i=slot
 ·subst q
  right
  have:(s.setCell i av).cell i=av:=by simp [St.setCell]
  rw [this]
  exact Jn.step hS hI hv
 ·exact .inl ⟨by simp [St.setCell,Ae _ _ q],rfl⟩
theorem Qf (h:As n B Iq s g a w) {nid:Nat} (hf:s.res nid=.unborn) (e:TypeId) (t:Ty):
  ∃ g',Go B Iq s g w (s.setRes nid (.row e t [])) g' w∧As n B Iq (s.setRes nid (.row e t [])) g' a w∧A7 (s.setRes nid (.row e t [])) g' w (.row nid) (.slice none 0 0):=by
 have hS:∀ b,By s g b→b < w.heap.size→By (s.setRes nid (.row e t [])) ⟨Du g.blk nid none,Du g.hdr nid (.slice none 0 0),g.av,g.innL⟩ b∧w.heap[b]? = w.heap[b]? := by
  intro b hb _
  refine ⟨⟨hb.1,fun j hj hk=>?_,fun j hj=>hb.2.2 j (B4 rfl hj)⟩,rfl⟩
  by_cases q:j=nid
  ·subst q; simp at hk
  ·rw [Ac s _ q] at hj
   simp only [Ae _ _ q] at hk
   exact hb.2.1 j hj hk
 have hI:∀ j,Ag s g (s.setRes nid (.row e t [])) ⟨Du g.blk nid none,Du g.hdr nid (.slice none 0 0),g.av,g.innL⟩ j:=by
  intro j
  by_cases q:j=nid
  ·subst q
   unfold Ag
   rw [hf]
   exact .inr trivial
  ·exact Ag.same (Ac s _ q) (by simp [Ae _ _ q]) (by simp [Ae _ _ q])
 refine ⟨_,⟨Kp.refl B Iq w,hS,hI,rfl⟩,h.step h.size h.defers (Nat.le_refl _) hS hI (fun i=>.inl ⟨rfl,rfl⟩) (fun j=>?_) (fun i j b hi hj=>?_) (fun i b hi=>?_) rfl (NK.same_world h (fun j=>B4 rfl) rfl fun j b hb=>by
  by_cases q:j=nid
  ·simp [q] at hb
  ·simp only [Ae _ _ q] at hb; exact ⟨j,hb⟩),?_⟩
 ·by_cases q:j=nid
  ·subst q
   right
   rw [Ab]
   refine ⟨[],⟨by simp,.inl ⟨by simp,rfl⟩⟩,Nh _ _,by simp [Value.ownBlock]⟩
  ·left
   exact ⟨Ac s _ q,by simp [Ae _ _ q],by simp [Ae _ _ q],fun _ _=>rfl⟩
 ·by_cases q1:i=nid
  ·simp [q1] at hi
  ·by_cases q2:j=nid
   ·simp [q2] at hj
   ·simp only [Ae _ _ q1] at hi
    simp only [Ae _ _ q2] at hj
    exact h.inj i j b hi hj
 ·by_cases q1:i=nid
  ·simp [q1] at hi
  ·simp only [Ae _ _ q1] at hi
   exact h.lt i b hi
 ·simp only [A7,Ab,Aa]
theorem Nw (h:As n B Iq s g a w) {id:Nat} {T:TypeId} {ls:List Lf} {i:Nat} {l0 l:Lf} (hr:s.res id=.box T ls) (hn:ls[i]? = some l0) (hl:∀ u,A7 s g w l0 u→A7 s g w l u):
  As n B Iq (s.setRes id (.box T (ls.set i l))) g a w∧Go B Iq s g w (s.setRes id (.box T (ls.set i l))) g w:=by
 have hS:∀ b,By s g b→b < w.heap.size→By (s.setRes id (.box T (ls.set i l))) g b∧w.heap[b]? = w.heap[b]? := by
  intro b hb _
  refine ⟨⟨hb.1,fun j hj hk=>?_,fun j hj=>hb.2.2 j (B4 rfl hj)⟩,rfl⟩
  by_cases q:j=id
  ·subst q
   exact hb.2.1 j (by rw [hr]; rfl) hk
  ·rw [Ac s _ q] at hj
   exact hb.2.1 j hj hk
 have hI:∀ j,Ag s g (s.setRes id (.box T (ls.set i l))) g j:=by
  intro j
  by_cases q:j=id
  ·subst q
   unfold Ag
   rw [hr,Ab]
   exact .inr ⟨_,_,rfl,rfl⟩
  ·exact Ag.same (Ac s _ q) rfl rfl
 refine ⟨h.step h.size h.defers (Nat.le_refl _) hS hI (fun i=>.inl ⟨rfl,rfl⟩) (fun j=>?_) h.inj h.lt rfl (NK.same_world h (fun j=>B4 rfl) rfl fun id b q=>⟨id,q⟩),⟨Kp.refl B Iq w,hS,hI,rfl⟩⟩
 by_cases q:j=id
 ·subst q
  right
  rw [Ab]
  have r:=h.res j
  rw [hr] at r
  obtain ⟨b,cs,h1,h2,h3⟩:=r
  refine ⟨b,cs,h1,h2,C7.step hS hI ?_⟩
  obtain ⟨v0,q1,q2,q3⟩:=h3.get hn
  have hset:cs.toList.set i v0=cs.toList:=by
   apply List.ext_getElem?
   intro k
   by_cases q:i=k
   ·subst q
    rw [List.getElem?_set_self (List.getElem?_eq_some_iff.1 q1).1,q1]
   ·rw [List.getElem?_set_ne q]
  have:=h3.set (j:=i) (v:=v0) (hl v0 q2) q3
  rw [hset] at this
  exact this
 ·exact .inl ⟨Ac s _ q,rfl,rfl,fun _ _=>rfl⟩
theorem Xi (h:As n B Iq s g a w) {id:Nat} {T:TypeId} {ls:List Lf} {i:Nat} {l:Lf} (hr:s.res id=.box T ls) (hn:ls[i]? = some (.c (.slice none 0 0))) (hl:A7 s g w l (.slice none 0 0)):
  As n B Iq (s.setRes id (.box T (ls.set i l))) g a w∧Go B Iq s g w (s.setRes id (.box T (ls.set i l))) g w:=
 Nw h hr hn fun u hu=>by
  have hu:u=.slice none 0 0:=hu
  subst hu
  exact hl
theorem Xj (h:As n B Iq s g a w) {nid slot:Nat} {e1:TypeId} {u:Bool} {t:Ty} {s':St} {nid':Nat} (e:Vx s nid slot e1 u t=some (s',nid')):∃ g',As n B Iq s' g' a w∧Go B Iq s g w s' g' w:=by
 have stay:some (s,nid)=some (s',nid')→∃ g',As n B Iq s' g' a w∧Go B Iq s g w s' g' w:=fun q=>by cases q; exact ⟨g,h,Go.refl B Iq s g w⟩
 unfold Vx at e
 split at e
 ·rename_i id hv
  split at e
  ·rename_i e0 tt xs hr
   split at e
   ·rename_i _ _ hys hf hf1
    cases e
    obtain ⟨htt,hxs⟩:=u7 hys
    subst htt
    subst hxs
    obtain ⟨g1,k1,k2,k3⟩:=Qf h hf1 e1 t
    have hid1:id≠nid + 1:=fun q=>by rw [q,hf1] at hr; cases hr
    have hid0:id≠nid:=fun q=>by rw [q,hf] at hr; cases hr
    have hr1:(s.setRes (nid + 1) (.row e1 t [])).res id=.row e0 (Vf u t) []:=(Ac s _ hid1).trans hr
    have hf0:(s.setRes (nid + 1) (.row e1 t [])).res nid=.unborn:=(Ac s _ (by omega)).trans hf
    have r:=k2.res id
    rw [hr1] at r
    obtain ⟨cs,q1,q2,q3⟩:=r
    have q1:Cp w (.sl t) 0 e0 1 (g1.hdr id) 0 cs:=by
     refine (B3 (t:=.sl t) rfl).2 ?_
     have:=(B3 (z4 u t)).1 q1
     rw [V8] at this
     exact this
    have hc:=k2.cell slot
    have hv1:(s.setRes (nid + 1) (.row e1 t [])).cell slot=.vl (.lf (.row id)):=hv
    rw [hv1] at hc
    obtain ⟨hc1,hc2⟩:=hc
    simp only [A7,hr1] at hc1
    obtain ⟨m1,m2,m3,m4⟩:=k2.growR (o:=some id) hf0 (v:=g1.hdr id) (v':=g1.hdr id) (w':=w) (r:=.last ⟨e0,e1,u⟩ t [] false (nid + 1)) (I:=[]) (fun j q=>by
     cases q
     exact ⟨by rw [hr1]; rfl,rfl,q3⟩) (fun q=>by cases q) (World.grownBy.refl w _) (.inl rfl) (fun b hb=>(k2.lt id b (q3.trans hb)).1) (fun _ b hb=>by cases hb) (fun hS _=>by
     refine ⟨cs,?_,?_,?_,fun u hq=>by cases hq⟩
     ·have e1:(g1.mv (some id) nid (g1.hdr id)).hdr nid=g1.hdr id:=by simp [Gh.mv]
      rw [e1]
      exact q1
     ·exact ⟨fun i x u hx=>(by cases hx),fun i _ _ _ _ hx=>absurd hx (Nat.not_lt_zero _)⟩
     ·simp [Gh.mv])
    have hcell:Jn ((Bv (s.setRes (nid + 1) (.row e1 t [])) (some id)).setRes nid (.last ⟨e0,e1,u⟩ t [] false (nid + 1))) (g1.mv (some id) nid (g1.hdr id)) w (.vl (.lf (.row nid))) (a.tmps.getD slot undef):=by
     refine ⟨?_,hc2⟩
     simp only [A7,Ab]
     rw [hc1]
     simp [Gh.mv]
    obtain ⟨c1,c2⟩:=Xh m3 (slot:=slot) hcell
    exact ⟨_,c1,k1.trans (Go.trans ⟨m4,m1,m2,rfl⟩ c2)⟩
   ·cases e
  ·exact stay e
 ·exact stay e
theorem Aax (h:As n B Iq s g a w) {nid slot:Nat} {s':St} {nid':Nat} (e:j6 s nid slot=some (s',nid')):∃ g',As n B Iq s' g' a w∧Go B Iq s g w s' g' w:=by
 have stay:some (s,nid)=some (s',nid')→∃ g',As n B Iq s' g' a w∧Go B Iq s g w s' g' w:=fun q=>by cases q; exact ⟨g,h,Go.refl B Iq s g w⟩
 unfold j6 at e
 split at e
 ·rename_i id hv
  split at e
  ·rename_i e0 t xs i j hr
   split at e
   ·rename_i ej tj ys hj
    split at e
    ·rename_i ht
     split at e<;>cases e
     rename_i he
     subst ht
     subst he
     obtain ⟨k1,k2⟩:=Agf h hr hj id
     exact ⟨_,k2,k1⟩
    ·cases e
   ·cases e
  ·exact stay e
 ·exact stay e
theorem Ags (h:As n B Iq s g a w) {nid:Nat} {f:Fx} {s':St} {nid':Nat} (e:Aaw s nid f=some (s',nid')):∃ g',As n B Iq s' g' a w∧Go B Iq s g w s' g' w:=by
 have fz:∀ ls,some (s.frz ls,nid)=some (s',nid')→∃ g',As n B Iq s' g' a w∧Go B Iq s g w s' g' w:=fun ls q=>by
  cases q
  obtain ⟨g',k1,k2,_⟩:=C9 (ls:=ls) h
  exact ⟨g',k1,k2⟩
 have stay:some (s,nid)=some (s',nid')→∃ g',As n B Iq s' g' a w∧Go B Iq s g w s' g' w:=fun q=>by cases q; exact ⟨g,h,Go.refl B Iq s g w⟩
 cases f with
 | sl slot i t=>
  simp only [Aaw] at e
  split at e
  ·rename_i v hv
   split at e
   ·rename_i hn
    cases e
    have k:=h.cell slot
    rw [hv] at k
    exact ⟨g,Xh h (av:=.vl (Zq v i (.sl t []))) (Ab9 (w:=w) k (O2 hn) (Zs s g w t))⟩
   ·exact fz _ e
  ·exact stay e
 | row slot i e0 t=>
  simp only [Aaw] at e
  split at e
  ·rename_i v hv
   split at e
   ·rename_i hn
    split at e
    ·rename_i hf
     cases e
     obtain ⟨g',k1,k2,k3⟩:=Qf h hf e0 t
     have k:=k2.cell slot
     have hc:(s.setRes nid (.row e0 t [])).cell slot=.vl v:=hv
     rw [hc] at k
     obtain ⟨r1,r2⟩:=Xh k2 (av:=.vl (Zq v i (.row nid))) (Ab9 (w:=w) k (O2 hn) k3)
     exact ⟨g',r1,k1.trans r2⟩
    ·cases e
   ·exact stay e
  ·exact stay e
 | boxSl slot i t=>
  simp only [Aaw] at e
  split at e
  ·rename_i id hv
   split at e
   ·rename_i T ls hr
    split at e
    ·rename_i hn
     cases e
     exact ⟨g,Xi h hr (O2 hn) (Zs s g w t)⟩
    ·exact fz _ e
   ·exact stay e
  ·exact stay e
 | boxRow slot i e0 t=>
  simp only [Aaw] at e
  split at e
  ·rename_i id hv
   split at e
   ·rename_i T ls hr
    split at e
    ·rename_i hn
     split at e
     ·rename_i hf
      cases e
      obtain ⟨g',k1,k2,k3⟩:=Qf h hf e0 t
      have hne:id≠nid:=by rintro rfl; rw [hf] at hr; cases hr
      have hr':(s.setRes nid (.row e0 t [])).res id=.box T ls:=by rw [Ac s _ hne]; exact hr
      obtain ⟨r1,r2⟩:=Xi k2 hr' (O2 hn) k3
      exact ⟨g',r1,k1.trans r2⟩
     ·cases e
    ·exact stay e
   ·exact stay e
  ·exact stay e
 | self slot i=>
  simp only [Aaw] at e
  split at e
  ·rename_i id hv
   split at e
   ·rename_i T ls hr
    split at e
    ·rename_i hn
     cases e
     unfold Afa at hn
     split at hn
     ·rename_i hg
      refine ⟨g,Nw h hr hg fun u hu=>?_⟩
      simp only [A7] at hu ⊢
      rw [hr]
      exact .inl hu
     ·rename_i j hg
      have hj:=Nat.eq_of_beq_eq_true hn
      subst hj
      refine ⟨g,Nw h hr hg fun u hu=>?_⟩
      simp only [A7] at hu ⊢
      rw [hr] at hu ⊢
      exact .inr hu
     ·cases hn
    ·exact stay e
   ·exact stay e
  ·exact stay e
 | last slot e1 t=>exact Xj h e
 | lastU slot e1 t=>exact Xj h e
 | back slot=>exact Aax h e
theorem u9:∀ {fx:List Fx} {s:St} {g:Gh} {nid:Nat} {s':St} {nid':Nat},As n B Iq s g a w→Ab8 s nid fx=some (s',nid')→∃ g',As n B Iq s' g' a w∧Go B Iq s g w s' g' w
 | [],s,g,nid,s',nid',h,e=>by cases e; exact ⟨g,h,Go.refl B Iq s g w⟩
 | f::r,s,g,nid,s',nid',h,e=>by
  simp only [Ab8] at e
  obtain ⟨p,e1,e2⟩:=Al e
  obtain ⟨g1,k1,k2⟩:=Ags h (s':=p.1) (nid':=p.2) e1
  obtain ⟨g2,k3,k4⟩:=u9 k1 e2
  exact ⟨g2,k3,k2.trans k4⟩
theorem Agt (h:As n B Iq s g a w) {np nid:Nat} {p:D9} {d:p.D} (e:p.mtch np s nid=some d):
  ∃ s1 g1 g',Go B Iq s g w s1 g1 w∧As n B Iq (p.st d) g' a w∧g'.av=g1.av∧∀ id,id < np→((p.st d).res id=.unborn→s1.res id=.unborn)∧(∀ T ls,(p.st d).res id=.box T ls→(∃ T' ls',s1.res id=.box T' ls')∧g'.blk id=g1.blk id)∧(∀ e,∀ t:Ty,∀ xs:List t.D,(p.st d).res id=.row e t xs→(∃ e',∃ xs':List t.D,s1.res id=.row e' t xs')∧g'.blk id=g1.blk id∧g'.hdr id=g1.hdr id)∧(((p.st d).res id).nst=true→(s1.res id).nst=true∧g'.blk id=g1.blk id∧g'.hdr id=g1.hdr id):=by
 unfold D9.mtch at e
 obtain ⟨q,e1,e⟩:=Al e
 obtain ⟨l,e2,e⟩:=Al e
 obtain ⟨y,e3,e4⟩:=Zo e
 obtain ⟨z,e5,e6⟩:=Zp e3
 obtain ⟨g1,k1,k2⟩:=u9 h (s':=q.1) (nid':=q.2) e1
 have hst:p.st d=u3 l.1 l.2:=by
  unfold D9.st
  have e4':J2 p.cs (X:=RsD p.rs Unit) d=(l.1,y):=e4
  have a2:(J2 p.cs (X:=RsD p.rs Unit) d).2=y:=congrArg Prod.snd e4'
  have a3:Mi p.rs (J2 p.cs (X:=RsD p.rs Unit) d).2=(l.2,z):=(congrArg (Mi p.rs) a2).trans e6
  exact congr (congrArg u3 (congrArg Prod.fst e4')) (congrArg Prod.fst a3)
 have hc:canon np (Vy p.cs) q.1=some (u3 l.1 l.2,(Vv q.1 np (Vy p.cs)).length):=by
  unfold Afb at e2
  unfold canon
  dsimp only at e2 ⊢
  split at e2
  ·rename_i hq
   rw [if_pos hq]
   cases e2
   rfl
  ·cases e2
 obtain ⟨g',r1,r2,r3⟩:=Ae5 k1 hc
 rw [hst]
 exact ⟨q.1,g1,g',k2,r1,r2,r3⟩
end
end
section
theorem v6 (p:prD):∀ l:List prD,(Wy p l).length=l.length + 1
 | []=>rfl
 | q::r=>by
  simp only [Wy]
  cases ltK q p with
  | true=>simp only [cond_true,List.length_cons,v6 p r]
  | false=>rfl
theorem O3:∀ l:List prD,(K0 l).length=l.length
 | []=>rfl
 | p::r=>by show (Wy p (K0 r)).length=r.length + 1; rw [v6,O3 r]
structure Zt where
 pre:List Oper
 o2:Oper
 o3:Oper
 o4:Oper
 V:TypeId
 z:Operand
 d2:Nat
 d3:Nat
 fs:FuncId
def Vz (o2 o3 o4:Oper):Option (TypeId×Operand×Nat×Nat×FuncId):=match o2.op,o2.dst,o2.guard,o3.dst,o3.guard,Fr o4,o4.guard with
 | .makeInterface V z,some d2,none,some d3,none,some (fs,[.tmp p,.tmp q]),none=>if p=d2 then (if q=d3 then (if d2=d3 then none else some (V,z,d2,d3,fs)) else none) else none
 | _,_,_,_,_,_,_=>none
def Ik:List Oper→Option Zt
 | [o0,o1,o2,o3,o4]=>match Vz o2 o3 o4 with
  | some (V,z,d2,d3,fs)=>some ⟨[o0,o1],o2,o3,o4,V,z,d2,d3,fs⟩
  | none=>none
 | _=>none
def Afc:AV→Option (FuncId×Nat)
 | .fn fc [.ptr b 0]=>some (fc,b)
 | _=>none
def Xk (BT:TypeId):Dj→Option Nat
 | .box T [.row r]=>if T=BT then some r else none
 | _=>none
def j7:Option Lf→Option Nat
 | some (.row r)=>some r
 | _=>none
def Ahh (P:Program) (T:Tb) (n:Nat) (s:St) (nid:Nat) (q:Zt):Option (List Bool×St):=match T.srt with
 | some (fs,fc,BT,U,e)=>match j7 (s.leaf q.z) with
  | some r=>match Iu P T (s.put n q.o2.dst .dead) nid q.o3 with
   | some (av,s3)=>match Afc av with
    | some (fc',b)=>match Xk BT (s3.res b),u5 e prT (s3.res r) with
     | some r',some xs=>if Zb P q.V=true then (if fs=q.fs then (if fc'=fc then (if q.V=U then (if r'=r then (if q.d2 < n then (if q.d3 < n then some ([D0 xs,decide (xs.length≤1000)],((s3.put n q.o3.dst av).setRes r (.row e prT (K0 xs))).put n q.o4.dst (.tp [])) else none) else none) else none) else none) else none) else none) else none
     | _,_=>none
    | none=>none
   | none=>none
  | none=>none
 | none=>none
theorem Aay {e:TypeId} {t:Ty} {v:Dj} {xs:List t.D} (h:u5 e t v=some xs):v=.row e t xs:=by
 unfold u5 at h
 split at h
 ·split at h
  ·rename_i he
   split at h
   ·rename_i ht
    cases h
    subst he ht
    rfl
   ·cases h
  ·cases h
 ·cases h
section
variable {P:Program} {n B:Nat} {Iq:List Nat} {s:St} {g:Gh} {a:Act} {w:World}
theorem j8 {o2 o3 o4:Oper} {V:TypeId} {z:Operand} {d2 d3:Nat} {fs:FuncId} (h:Vz o2 o3 o4=some (V,z,d2,d3,fs)):
  o2.op=.makeInterface V z∧o2.dst=some d2∧o2.guard=none∧o3.dst=some d3∧o3.guard=none∧Fr o4=some (fs,[.tmp d2,.tmp d3])∧o4.guard=none∧d2≠d3:=by
 unfold Vz at h
 split at h
 ·rename_i h1 h2 h3 h4 h5 h6 h7
  split at h
  ·rename_i e1
   split at h
   ·rename_i e2
    split at h
    ·cases h
    ·rename_i e3
     cases h
     subst e1 e2
     exact ⟨h1,h2,h3,h4,h5,h6,h7,e3⟩
   ·cases h
  ·cases h
 ·cases h
theorem Aca {a:Act} {d:Nat} {v:Value} (h:d < a.tmps.size):(a.put (some d) v).tmps.getD d undef=v:=by
 simp [Act.put,Array.getD_eq_getD_getElem?,h]
theorem Aaz {a:Act} {d i:Nat} {v:Value} (h:i≠d):(a.put (some d) v).tmps.getD i undef=a.tmps.getD i undef:=by
 simp [Act.put,Array.getD_eq_getD_getElem?,Array.getElem?_setIfInBounds,h.symm]
theorem Ada (h:As n B Iq s g a w) {fs fc:FuncId} {BT U e:TypeId} (hok:Aen P fs fc BT U e) {b r:Nat} {xs:List prD} {bb:Nat} (hb:g.blk b=some bb) (hbox:s.res b=.box BT [.row r]) (hrow:s.res r=.row e prT xs)
  (hnd:D0 xs=true) (hlen:xs.length≤1000):O0 P fs #[.iface U (g.hdr r),.func (.func fc) #[] #[.pointer (some ⟨bb,0,none⟩)]] n B Iq s g a w (.tp []) (s.setRes r (.row e prT (K0 xs))):=by
 have kb:=h.res b
 rw [hbox] at kb
 obtain ⟨bb',ccs,hb',hh,hL⟩:=kb
 obtain rfl:bb=bb':=Option.some.inj (hb.symm.trans hb')
 have kr:=h.res r
 rw [hrow] at kr
 obtain ⟨cs,o1,o2,o3⟩:=kr
 obtain ⟨v0,hcs⟩:∃ v0,ccs=#[v0]:=by
  have:=hL.length
  match ccs,this with
  | ⟨[x]⟩,_=>exact ⟨x,rfl⟩
 subst hcs
 have hv0:v0=g.hdr r:=by
  have:=hL.1.1
  simp only [A7,hrow] at this
  exact this
 subst hv0
 have hbr:b≠r:=fun q=>by rw [q,hrow] at hbox; cases hbox
 have hne:(g.hdr r).ownBlock≠some bb:=by
  rw [← o3]
  intro q
  exact hbr (h.inj b r bb hb q)
 have hlive:(s.res r).live=true:=by rw [hrow]; rfl
 refine Calls.mono (hok w bb (g.hdr r) xs cs hnd hlen (h.lt b bb hb).1 hh o1 (o2.imp fun _ _ _=>trivial) hne) fun en w'=>?_
 rintro ⟨rfl,hk,cs',p1,p2⟩
 have hmem:∀ c,c∈(g.hdr r).ownBlock.toList→g.blk r=some c:=fun c hc=>by
  simp only [Option.mem_toList] at hc
  rw [o3]; exact hc
 have hS:∀ c,By s g c→c < w.heap.size→By (s.setRes r (.row e prT (K0 xs))) g c∧w'.heap[c]? = w.heap[c]? := by
  intro c hc hc'
  refine ⟨⟨hc.1,fun j hj=>?_,fun j hj=>hc.2.2 j (B4 rfl hj)⟩,hk.block c hc' (fun q=>hc.2.1 r hlive (hmem c q))⟩
  by_cases q:j=r
  ·rw [q]; exact hc.2.1 r hlive
  ·rw [Ac s _ q] at hj; exact hc.2.1 j hj
 have hI:∀ j,Ag s g (s.setRes r (.row e prT (K0 xs))) g j:=by
  intro j
  by_cases q:j=r
  ·subst q
   unfold Ag
   rw [hrow]
   exact .inr (.inl ⟨_,_,Ab _ _ _,O3 xs,rfl,rfl⟩)
  ·exact Ag.same (Ac s _ q) rfl rfl
 refine ⟨.tuple #[],g,rfl,⟨hk.toKp h.base (fun c hc=>(h.lt r c (hmem c hc)).2.1),hS,hI,rfl⟩,?_,⟨#[],rfl,rfl,fun j v hv=>by simp at hv⟩⟩
 refine h.step h.size h.defers hk.size hS hI (fun i=>.inl ⟨rfl,rfl⟩) (fun j=>?_) h.inj (fun i c hi=>⟨Nat.lt_of_lt_of_le (h.lt i c hi).1 hk.size,(h.lt i c hi).2⟩) rfl (NK.of h hk.size (fun j c h1 h2=>⟨B4 rfl h1,h2⟩) (fun _ _=>rfl) (fun c hc hno=>hk.block c hc fun q=>hno r (hmem c q)) fun j c hj=>.inl ⟨j,hj⟩)
 by_cases q:j=r
 ·subst q
  right
  rw [Ab]
  exact ⟨cs',(show w'.ownsRow 0 e 2 (g.hdr j) (List.length (α:=prD) (K0 xs)) cs' by rw [O3]; exact p1),p2 _,o3⟩
 ·exact .inl ⟨Ac s _ q,rfl,rfl,fun c hc=>hk.block c (h.lt j c hc).1 (fun q2=>q (h.inj j r c hc (hmem c q2)))⟩
end
end
end Go.Proofs.Ytjokieaajjmoeaa.R
end
