/- Calls that are entered in place, function values, and the two library functions that a builder needs. No condition. -/
import Derived.Test.YtjokieaajjmoeaaGreatRLast
noncomputable section
set_option linter.unusedVariables false
set_option linter.unusedSimpArgs false
namespace Go.Proofs.YtjokieaajjmoeaaGreat.R
open Go Go.RowKit
section
def Rc (o:Oper):Option (FuncId×List Operand):=match o.op with
 | .call c=>match c.callee with
  | .value (.func f)=>some (f,c.args.toList)
  | _=>none
 | _=>none
def Aoj (s:St) (o:Oper):Option (FuncId×List Operand×List Lf):=match o.op with
 | .call c=>match c.callee with
  | .value (.tmp t)=>match s.cell t with
   | .fn f ls=>some (f,c.args.toList,ls)
   | _=>none
  | _=>none
 | _=>none
def g6 (s:St):List Operand→Option (List Vl)
 | []=>some []
 | x::r=>(s.value x).bind fun v=>(g6 s r).bind fun vs=>some (v::vs)
def Bif:List Lf→List Vl
 | []=>[]
 | l::r=>.lf l::Bif r
structure Tb where
 sd:FuncId→Option SD
 inl:FuncId→Option Func
 cc:Option (FuncId×TypeId)
 st:Option (FuncId×TypeId×TypeId)
 srt:Option (FuncId×FuncId×TypeId×TypeId×TypeId)
 nest:Nm
def Tb.of (sd:FuncId→Option SD):Tb:=⟨sd,fun _=>none,none,none,none,.off⟩
def Tb.dr (T:Tb):Tb:=⟨T.sd,T.inl,T.cc,T.st,T.srt,T.nest.less⟩
def F2 (xs:List Int):Bool:=xs.all fun x=>decide (0≤x)&&decide (x < 256)
def Bj8 (P:Program) (T:TypeId) (f:FuncId):Prop:=∀ (w:World) (b:Nat) (v:Value),
 (w.heap[b]? = some (.cells #[.pointer none,v] T (0,0))→Calls P f #[.pointer (some ⟨b,0,none⟩)] w fun e w'=>e=.returned (.tuple #[])∧Lx [b] w w'∧w'.heap[b]? = some (.cells #[.pointer (some ⟨b,0,none⟩),v] T (0,0)))∧
 (w.heap[b]? = some (.cells #[.pointer (some ⟨b,0,none⟩),v] T (0,0))→Calls P f #[.pointer (some ⟨b,0,none⟩)] w fun e w'=>e=.returned (.tuple #[])∧Lx [] w w')
def Bj9 (P:Program) (T e:TypeId) (f:FuncId):Prop:=∀ (w:World) (b:Nat) (p v:Value) (xs:List Int) (cs:List Value),
 F2 xs=true→w.heap[b]? = some (.cells #[p,v] T (0,0))→w.ownsRow 0 e 1 v xs.length cs→Ik w (fun _=>True) (.int .u8) xs cs→v.ownBlock≠some b→
  Calls P f #[.pointer (some ⟨b,0,none⟩)] w fun e w'=>e=.returned (.string (strOfNums xs))∧Lx v.ownBlock.toList w w'
abbrev prT:Ty:=.pair .str (.pair .str .unit)
abbrev prD:=Aa×Aa×Unit
def ltK (a b:prD):Bool:=Op.bytesLess a.1.toList b.1.toList
def Av1 (p:prD):List prD→List prD
 | []=>[p]
 | q::r=>bif ltK q p then q::Av1 p r else p::q::r
def Rd (l:List prD):List prD:=l.foldr Av1 []
def E6:List prD→Bool
 | []=>true
 | p::r=>!(r.any fun q=>q.1.toList==p.1.toList)&&E6 r
def A6i (P:Program) (fs fc:FuncId) (BT U e:TypeId):Prop:=∀ (w:World) (b:Nat) (v:Value) (xs:List prD) (cs:List Value),
 E6 xs=true→xs.length≤1000→b < w.heap.size→w.heap[b]? = some (.cells #[v] BT (0,0))→w.ownsRow 0 e 2 v xs.length cs→Ik w (fun _=>True) prT xs cs→v.ownBlock≠some b→
  Calls P fs #[.iface U v,.func (.func fc) #[] #[.pointer (some ⟨b,0,none⟩)]] w fun en w'=>en=.returned (.tuple #[])∧Lx v.ownBlock.toList w w'∧∃ cs',w'.ownsRow 0 e 2 v xs.length cs'∧∀ S,Ik w' S prT (Rd xs) cs'
structure Ax (P:Program) (T:Tb):Prop where
 sd:∀ f sd,T.sd f=some sd→M3 P f∧Af9 P f sd.sg sd.den
 inl : ∀ f fn, T.inl f = some fn → P.funcs[f]? = some fn ∧ (fn.name == "runtime.NumGoroutine") = false ∧ fn.body.isNone = false
 cc:∀ f BT,T.cc=some (f,BT)→M3 P f∧Bj8 P BT f
 st:∀ f BT e,T.st=some (f,BT,e)→M3 P f∧Bj9 P BT e f
 srt:∀ fs fc BT U e,T.srt=some (fs,fc,BT,U,e)→M3 P fs∧A6i P fs fc BT U e
theorem Ax.dr {P:Program} {T:Tb} (h:Ax P T):Ax P T.dr:=⟨h.sd,h.inl,h.cc,h.st,h.srt⟩
theorem Ax.of {P:Program} {sd:FuncId→Option SD} (h:∀ f d,sd f=some d→M3 P f∧Af9 P f d.sg d.den):Ax P (Tb.of sd):=
 ⟨h,fun _ _ q=>(by cases q),fun _ _ q=>(by cases q),fun _ _ _ q=>(by cases q),fun _ _ _ _ _ q=>(by cases q)⟩
def Bka (T:Tb) (f:FuncId) (BT:TypeId):Bool:=match T.cc with
 | some (f',B')=>Nat.beq f' f&&Nat.beq B' BT
 | none=>false
def Bk3 (T:Tb) (f:FuncId) (BT:TypeId):Option TypeId:=match T.st with
 | some (f',B',e)=>bif Nat.beq f' f&&Nat.beq B' BT then some e else none
 | none=>none
def ccD (s:St) (id:Nat) (BT:TypeId) (l0 l1:Lf):Cd:=match l0 with
 | .c (.pointer none)=>some ([],.tp [],s.setRes id (.box BT [.ptr id 0,l1]))
 | .ptr j 0=>if j=id then some ([],.tp [],s) else none
 | .sp j=>if j=id then some ([],.tp [],s.setRes id (.box BT [.ptr id 0,l1])) else none
 | _=>none
def Bge (T:Tb) (s:St) (f:FuncId) (vs:List Vl):Cd:=match vs with
 | [.lf (.ptr id 0)]=>match s.res id with
  | .box BT [l0,l1]=>bif Bka T f BT then ccD s id BT l0 l1 else (match Bk3 T f BT with
   | some e=>(Aaq s ⟨e,.int .u8,[],0⟩ l1).bind fun p=>some ([F2 p.2],.vl (.lf (.c (.string (strOfNums p.2)))),Ei s p.1)
   | none=>none)
  | _=>none
 | _=>none
def A6j (s:St) (vs:List Vl):St:=⟨fun i=>match vs[i]? with | some v=>.vl v | none=>.dead,s.res⟩
def Bgf (P:Program) (T:Tb) (s:St) (nid:Nat) (o:Oper):Cd:=match Rc o with
 | some (f,xs)=>match g6 s xs with
  | some vs=>Bge T s f vs
  | none=>none
 | none=>S6 P s nid o
def St.put (n:Nat) (s:St) (d:Option Tmp) (av:AV):St:=match d with
 | some d=>if Nat.blt d n then s.setCell d av else s
 | none=>s
def Bjp (s:St) (nid:Nat):Nat:=match s.res nid with
 | .unborn=>nid
 | _=>nid + 1
def Bih (P:Program) (T:Tb) (n:Nat):List Oper→Nat→St→Option (List Bool×St)
 | [],_,s=>some ([],s)
 | o::r,nid,s=>match o.guard with
  | some _=>none
  | none=>match Bgf P T s nid o with
   | some (cs,av,s')=>match Bih P T n r (Bjp s' nid) (s'.put n o.dst av) with
    | some (cs',s'')=>some (cs++cs',s'')
    | none=>none
   | none=>none
def A29 (P:Program) (T:Tb) (n:Nat):Code→Nat→St→Option (List Bool×Bool×St)
 | .skip,_,s=>some ([],false,s)
 | .region _ ops draw,nid,s=>bif draw then none else match Bih P T n ops.toList nid s with
  | some (cs,s')=>some (cs,false,s')
  | none=>none
 | .seq a b,nid,s=>match A29 P T n a nid s with
  | some (cs,true,s')=>some (cs,true,s')
  | some (cs,false,s')=>match A29 P T n b (Bjp s' nid) s' with
   | some (cs',r,s'')=>some (cs++cs',r,s'')
   | none=>none
  | none=>none
 | .cond c a b,nid,s=>match s.conc c with
  | some (.bool true)=>A29 P T n a nid s
  | some (.bool false)=>A29 P T n b nid s
  | _=>none
 | .ret,_,s=>some ([],true,s)
 | _,_,_=>none
def Um (P:Program) (s:St):List ResultVar→Option (List Vl)
 | []=>some []
 | .tmp t::r=>match s.cell t with
  | .vl v=>(Um P s r).map (v::·)
  | _=>none
 | .cell a t::r=>match Ayy P s t (.tmp a) with
  | some v=>(Um P s r).map (v::·)
  | none=>none
def Bii (P:Program) (T:Tb) (fn:Func) (vs:List Vl) (s:St) (nid:Nat):Cd:=match fn.body with
 | none=>none
 | some c=>bif Nat.ble vs.length fn.ntmps then (match A29 P T fn.ntmps c nid (A6j s vs) with
  | some (cs,_,s')=>match Um P s' fn.results.toList with
   | some vs'=>some (cs,Bbf vs',⟨s.cell,s'.res⟩)
   | none=>none
  | none=>none) else none
def X3 (P:Program) (T:Tb) (s:St) (nid:Nat) (o:Oper):Option (AV×St):=match Rc o with
 | some (f,xs)=>match g6 s xs with
  | some vs=>match T.sd f with
   | some sd=>Aly sd.sg sd.den s nid vs
   | none=>match T.inl f with
    | some fn=>Nl (Bii P T fn vs s nid)
    | none=>Nl (Bge T s f vs)
  | none=>none
 | none=>match Aoj s o with
  | some (f,xs,ls)=>match g6 s xs with
   | some vs=>match T.sd f with
    | some sd=>Aly sd.sg sd.den s nid (vs++Bif ls)
    | none=>none
   | none=>none
  | none=>Nl (X0 T.nest P s nid o)
section
variable {P:Program} {n B:Nat} {Iq:List Nat} {s:St} {g:Gh} {a:Act} {w:World}
theorem Aji (h:Bp n B Iq s g a w):∀ {xs:List Operand} {vs:List Vl},g6 s xs=some vs→VLR s g w vs (xs.map a.eval)
 | [],vs,e=>by cases e; trivial
 | x::r,vs,e=>by
  simp only [g6] at e
  obtain ⟨v,e1,e⟩:=A6 e
  obtain ⟨vs',e2,e⟩:=A6 e
  cases e
  exact ⟨W7 h e1,Aji h e2⟩
theorem Aok {f:FuncId} (hc:M3 P f) (args:Array Value):(callFunc f args).run P w=.ok (.enter f args) w:=by
 obtain ⟨fn,h1,h2,h3⟩:=hc
 simp only [callFunc,Sem.run_bind,run_program,Result.andThen_ok,h1,h2,h3,Bool.false_eq_true,if_false]
 rfl
def Ajj (P:Program) (f:FuncId) (args:Array Value) (n B:Nat) (Iq:List Nat) (s:St) (g:Gh) (a:Act) (w:World) (av:AV) (s':St):Prop:=
 Calls P f args w fun e w'=>∃ v g',e=.returned v∧Go B Iq s g w s' g' w'∧Bp n B Iq s' g' a w'∧c9 s' g' w' av v
theorem Lx.toKp {B:Nat} {Iq l:List Nat} {w w':World} (h:Lx l w w') (hB:B≤w.heap.size) (hl:∀ b∈l,b∈Iq∨B≤b):Kp B Iq w w':=
 ⟨h.os,h.tape,h.output,h.size,fun k hk hn=>h.block k (by omega) fun q=>by
  rcases hl k q with q | q
  ·exact hn q
  ·omega⟩
theorem Th (s:St) (o:Option Nat) (j:Nat):(Ei s o).res j=if o=some j then .dead else s.res j:=by
 cases o with
 | none=>simp [Ei]
 | some i=>
  simp only [Ei,St.setRes,K3,Option.some.injEq]
  by_cases q:j=i
  ·rw [if_pos q,if_pos q.symm]
  ·rw [if_neg q,if_neg (fun e=>q e.symm)]
theorem Bc4 {T:Tb} (hs:Ax P T) (h:Bp n B Iq s g a w) {f:FuncId} {vs:List Vl} {args:List Value} (hv:VLR s g w vs args) {cs:List Bool} {av:AV} {s':St} (e:Bge T s f vs=some (cs,av,s')) (hcs:Vn cs=true):
  M3 P f∧Ajj P f args.toArray n B Iq s g a w av s':=by
 unfold Bge at e
 split at e
 ·rename_i id
  split at e
  ·rename_i BT l0 l1 hr
   match args,hv with
   | [u],hv=>
   have hl:=hv.1.1
   simp only [Cx,hr] at hl
   obtain ⟨b,hb,hu⟩:=hl
   subst hu
   have r:=h.res id
   rw [hr] at r
   obtain ⟨b',cs,hb',hh,hL⟩:=r
   obtain rfl:b=b':=Option.some.inj (hb.symm.trans hb')
   obtain ⟨v0,v1,hcs⟩:∃ v0 v1,cs=#[v0,v1]:=by
    have:=hL.length
    match cs,this with
    | ⟨[x,y]⟩,_=>exact ⟨x,y,rfl⟩
   subst hcs
   have hL0:=hL.1
   have hL1:=hL.2.1
   have hlive:(s.res id).live=true:=by rw [hr]; rfl
   have hlt:=h.lt id b hb
   cases hcc:Bka T f BT with
   | true=>
    rw [hcc] at e
    simp only [cond_true] at e
    have hT:T.cc=some (f,BT):=by
     unfold Bka at hcc
     split at hcc
     ·rename_i f' B' hq
      simp only [Bool.and_eq_true] at hcc
      rw [hq,Nat.eq_of_beq_eq_true hcc.1,Nat.eq_of_beq_eq_true hcc.2]
     ·cases hcc
    obtain ⟨hcal,hok⟩:=hs.cc f BT hT
    refine ⟨hcal,?_⟩
    have become:∀ {p0:Value},Calls P f #[.pointer (some ⟨b,0,none⟩)] w (fun e w'=>e=.returned (.tuple #[])∧Lx [b] w w'∧w'.heap[b]? = some (.cells #[.pointer (some ⟨b,0,none⟩),v1] BT (0,0)))→
      Ajj P f #[.pointer (some ⟨b,0,none⟩)] n B Iq s g a w (.tp []) (s.setRes id (.box BT [.ptr id 0,l1])):=by
     intro p0 hcx
     refine Calls.mono hcx fun en w'=>?_
     rintro ⟨rfl,hk,hh'⟩
     have hS:∀ c,Eg s g c→c < w.heap.size→Eg (s.setRes id (.box BT [.ptr id 0,l1])) g c∧w'.heap[c]? = w.heap[c]? := by
      intro c hc hc'
      refine ⟨⟨hc.1,fun j hj=>?_,fun j hj=>hc.2.2 j (Ej rfl hj)⟩,hk.block c hc' (by simp only [List.mem_singleton]; rintro rfl; exact hc.2.1 id hlive hb)⟩
      by_cases q:j=id
      ·rw [q]; exact hc.2.1 id hlive
      ·rw [Ak s _ q] at hj; exact hc.2.1 j hj
     have hI:∀ j,Az s g (s.setRes id (.box BT [.ptr id 0,l1])) g j:=by
      intro j
      by_cases q:j=id
      ·subst q
       unfold Az
       rw [hr]
       exact .inr ⟨_,_,Ai _ _ _,rfl⟩
      ·exact Az.same (Ak s _ q) rfl rfl
     refine ⟨.tuple #[],g,rfl,⟨hk.toKp h.base (fun c hc=>by simp only [List.mem_singleton] at hc; subst hc; exact hlt.2.1),hS,hI,rfl⟩,?_,⟨#[],rfl,rfl,fun j v hv=>by simp at hv⟩⟩
     refine h.step h.size h.defers hk.size hS hI (fun i=>.inl ⟨rfl,rfl⟩) (fun j=>?_) h.inj (fun i c hi=>⟨Nat.lt_of_lt_of_le (h.lt i c hi).1 hk.size,(h.lt i c hi).2⟩) rfl (NK.of h hk.size (fun j c h1 h2=>⟨Ej rfl h1,h2⟩) (fun _ _=>rfl) (fun c hc hno=>hk.block c hc (by simp only [List.mem_singleton]; rintro rfl; exact hno id hb)) fun j c hj=>.inl ⟨j,hj⟩)
     by_cases q:j=id
     ·subst q
      right
      rw [Ai]
      refine ⟨b,_,hb,hh',⟨?_,rfl⟩,⟨Cx.step hS hI hL1.1,hL1.2⟩,trivial⟩
      simp only [Cx,Ai]
      exact ⟨b,hb,rfl⟩
     ·exact .inl ⟨Ak s _ q,rfl,rfl,fun c hc=>hk.block c (h.lt j c hc).1 (by simp only [List.mem_singleton]; rintro rfl; exact q (h.inj j id c hc hb))⟩
    unfold ccD at e
    split at e
    ·cases e
     have h0:v0=.pointer none:=hL0.1
     subst h0
     exact become (p0:=undef) ((hok w b v1).1 hh)
    ·rename_i j
     split at e<;>cases e
     rename_i hj
     subst hj
     have h0:=hL0.1
     simp only [Cx,hr] at h0
     obtain ⟨b2,e1,e2⟩:=h0
     obtain rfl:b=b2:=Option.some.inj (hb.symm.trans e1)
     subst e2
     refine Calls.mono ((hok w b v1).2 hh) fun en w'=>?_
     rintro ⟨rfl,hk⟩
     have hS:∀ c,Eg s g c→c < w.heap.size→Eg s g c∧w'.heap[c]? = w.heap[c]? := fun c hc hc'=>⟨hc,hk.block c hc' (by simp)⟩
     have hI:∀ j,Az s g s g j:=fun _=>Az.same rfl rfl rfl
     refine ⟨.tuple #[],g,rfl,⟨hk.toKp h.base (fun c hc=>by simp at hc),hS,hI,rfl⟩,?_,⟨#[],rfl,rfl,fun j v hv=>by simp at hv⟩⟩
     exact h.step h.size h.defers hk.size hS hI (fun i=>.inl ⟨rfl,rfl⟩) (fun j=>.inl ⟨rfl,rfl,rfl,fun c hc=>hk.block c (h.lt j c hc).1 (by simp)⟩) h.inj (fun i c hi=>⟨Nat.lt_of_lt_of_le (h.lt i c hi).1 hk.size,(h.lt i c hi).2⟩) rfl (NK.of h hk.size (fun j c h1 h2=>⟨h1,h2⟩) (fun _ _=>rfl) (fun c hc _=>hk.block c hc (by simp)) fun j c hj=>.inl ⟨j,hj⟩)
    ·rename_i j
     split at e<;>cases e
     rename_i hj
     subst hj
     have h0:=hL0.1
     simp only [Cx,hr] at h0
     rcases h0 with h0 | ⟨b2,e1,e2⟩
     ·subst h0
      exact become (p0:=undef) ((hok w b v1).1 hh)
     ·obtain rfl:b=b2:=Option.some.inj (hb.symm.trans e1)
      subst e2
      refine become (p0:=undef) (Calls.mono ((hok w b v1).2 hh) fun en w'=>?_)
      rintro ⟨rfl,hk⟩
      exact ⟨rfl,⟨hk.os,hk.tape,hk.output,hk.size,fun k q _=>hk.block k q (by simp)⟩,(hk.block b hlt.1 (by simp)).trans hh⟩
    ·cases e
   | false=>
    rw [hcc] at e
    simp only [cond_false] at e
    split at e
    ·rename_i ety hst
     have hT:T.st=some (f,BT,ety):=by
      unfold Bk3 at hst
      split at hst
      ·rename_i f' B' e' hq
       cases hc:(Nat.beq f' f&&Nat.beq B' BT) with
       | false=>rw [hc] at hst; cases hst
       | true=>
        rw [hc] at hst
        simp only [Bool.and_eq_true] at hc
        cases hst
        rw [hq,Nat.eq_of_beq_eq_true hc.1,Nat.eq_of_beq_eq_true hc.2]
      ·cases hst
     obtain ⟨hcal,hok⟩:=hs.st f BT ety hT
     refine ⟨hcal,?_⟩
     obtain ⟨p,e1,e⟩:=A6 e
     cases e
     have hbytes:F2 p.2=true:=by simpa [Vn] using hcs
     obtain ⟨⟨cs1,o1,o2⟩,k2,k3⟩:=Agb h.res e1 hL1.1
     have hne:v1.ownBlock≠some b:=by
      rw [k2]
      intro q
      cases hp:p.1 with
      | none=>rw [hp] at q; cases q
      | some j=>
       rw [hp] at q
       have:j=id:=h.inj j id b q hb
       subst this
       obtain ⟨e',r1,_⟩:=A4k e1 j hp
       rw [hr] at r1
       cases r1
     refine Calls.mono (hok w b v0 v1 p.2 cs1 hbytes hh o1 (o2.imp fun _ _ _=>trivial) hne) fun en w'=>?_
     rintro ⟨rfl,hk⟩
     rw [k2] at hk
     let g':Gh:=⟨fun j=>if p.1=some j then none else g.blk j,g.hdr,g.av,g.innL⟩
     have hgb:∀ j c,g'.blk j=some c→g.blk j=some c∧p.1≠some j:=by
      intro j c q
      by_cases hq:p.1=some j
      ·have:g'.blk j=none:=if_pos hq
       rw [this] at q
       cases q
      ·have:g'.blk j=g.blk j:=if_neg hq
       exact ⟨by rw [← this]; exact q,hq⟩
     have hmem:∀ c,c∈(p.1.bind g.blk).toList→∃ j,p.1=some j∧g.blk j=some c:=by
      intro c hc
      simp only [Option.mem_toList] at hc
      obtain ⟨j,q1,q2⟩:=A6 hc
      exact ⟨j,q1,q2⟩
     have hkn:∀ j,((Ei s p.1).res j).nst=true→(s.res j).nst=true:=fun j hj=>by
      rw [Th] at hj
      split at hj
      ·cases hj
      ·exact hj
     have hS:∀ c,Eg s g c→c < w.heap.size→Eg (Ei s p.1) g' c∧w'.heap[c]? = w.heap[c]? := by
      intro c hc hc'
      refine ⟨⟨hc.1,fun j hj hk'=>?_,fun j hj hi=>hc.2.2 j (hkn j hj) hi⟩,hk.block c hc' (fun q=>?_)⟩
      ·obtain ⟨q1,q2⟩:=hgb j c hk'
       rw [Th,if_neg q2] at hj
       exact hc.2.1 j hj q1
      ·obtain ⟨j,q1,q2⟩:=hmem c q
       exact hc.2.1 j (k3 j q1).1 q2
     have hI:∀ j,Az s g (Ei s p.1) g' j:=by
      intro j
      by_cases q:p.1=some j
      ·exact .inl (by rw [Th,if_pos q])
      ·exact Az.same (by rw [Th,if_neg q]) (if_neg q) rfl
     refine ⟨_,g',rfl,⟨hk.toKp h.base (fun c hc=>?_),hS,hI,rfl⟩,?_,⟨rfl,rfl⟩⟩
     ·obtain ⟨j,q1,q2⟩:=hmem c hc
      exact (h.lt j c q2).2.1
     ·refine h.step h.size h.defers hk.size hS hI (fun i=>.inl ⟨by cases p.1<;>rfl,rfl⟩) (fun j=>?_) (fun i j c hi hj=>h.inj i j c (hgb i c hi).1 (hgb j c hj).1) (fun i c hi=>?_) rfl (NK.of h hk.size (fun j c h1 h2=>⟨hkn j h1,h2⟩) (fun _ _=>rfl) (fun c hc hno=>hk.block c hc fun q=>by obtain ⟨j,_,q2⟩:=hmem c q; exact hno j q2) fun j c hj=>.inl ⟨j,(hgb j c hj).1⟩)
      ·by_cases q:p.1=some j
       ·right
        rw [Th,if_pos q]
        exact if_pos q
       ·left
        refine ⟨by rw [Th,if_neg q],if_neg q,rfl,fun c hc=>hk.block c (h.lt j c hc).1 (fun q2=>?_)⟩
        obtain ⟨j',q3,q4⟩:=hmem c q2
        exact q (by rw [q3,h.inj j' j c q4 hc])
      ·obtain ⟨q1,_⟩:=hgb i c hi
       exact ⟨Nat.lt_of_lt_of_le (h.lt i c q1).1 hk.size,(h.lt i c q1).2⟩
    ·cases e
  ·cases e
 ·cases e
theorem Ayf (n:Nat) (s:St) (d:Option Tmp) (av:AV):(s.put n d av).res=s.res:=by
 cases d with
 | none=>rfl
 | some d=>unfold St.put; simp only; split<;>rfl
theorem Ps (h:Bp n B Iq s g a w) {av:AV} {v:Value} (d:Option Tmp) (hv:c9 s g w av v):Bp n B Iq (s.put n d av) g (a.put d v) w∧Go B Iq s g w (s.put n d av) g w:=by
 have hr:=Ayf n s d av
 have hS:∀ b,Eg s g b→b < w.heap.size→Eg (s.put n d av) g b∧w.heap[b]? = w.heap[b]? := by
  intro b hb _
  refine ⟨⟨hb.1,fun id hl=>?_,fun id hn=>hb.2.2 id (by rw [hr] at hn; exact hn)⟩,rfl⟩
  rw [hr] at hl
  exact hb.2.1 id hl
 have hI:∀ id,Az s g (s.put n d av) g id:=fun id=>Az.same (by rw [hr]) rfl rfl
 refine ⟨h.step ?_ ?_ (Nat.le_refl _) hS hI (fun i=>?_) (fun id=>.inl ⟨by rw [hr],rfl,rfl,fun _ _=>rfl⟩) h.inj h.lt rfl (NK.alike h hr),⟨Kp.refl B Iq w,hS,hI,rfl⟩⟩
 ·cases d with
  | none=>exact h.size
  | some d=>simp [Act.put,h.size]
 ·cases d with
  | none=>exact h.defers
  | some d=>exact h.defers
 ·cases d with
  | none=>exact .inl ⟨rfl,rfl⟩
  | some d=>
   by_cases hdn:Nat.blt d n=true
   ·have hlt:d < a.tmps.size:=by rw [h.size]; exact Nat.le_of_ble_eq_true hdn
    by_cases q:i=d
    ·subst q
     right
     have hc:(s.put n (some i) av).cell i=av:=by simp [St.put,St.setCell,hdn]
     rw [hc]
     have hv':c9 (s.put n (some i) av) g w av v:=c9.step hS hI hv
     have:(a.put (some i) v).tmps.getD i undef=v:=by simp [Act.put,Array.getD,hlt]
     rw [this]
     exact hv'
    ·left
     refine ⟨by simp [St.put,St.setCell,hdn,As _ _ q],?_⟩
     simp [Act.put,Array.getD_eq_getD_getElem?,Array.getElem?_setIfInBounds_ne (Ne.symm q)]
   ·have hge:a.tmps.size≤d:=by
     rw [h.size]
     rcases Nat.lt_or_ge d n with q | q
     ·exact absurd (Nat.ble_eq_true_of_le q) hdn
     ·exact q
    left
    refine ⟨by simp [St.put,hdn],?_⟩
    simp [Act.put,Array.setIfInBounds_eq_of_size_le hge]
theorem O1.call {f:FuncId} {xs:List Operand} {o:Oper} (hc:Rc o=some (f,xs)) (hcal:M3 P f) {av:AV} {s':St} (h:Ajj P f (xs.map a.eval).toArray n B Iq s g a w av s'):O1 P n B Iq s g a w o av s':=by
 obtain ⟨dst,op,type,pos,after,guard⟩:=o
 unfold Rc at hc
 split at hc
 ·rename_i c hop
  split at hc<;>cases hc
  rename_i hcallee
  obtain ⟨callee,args,argTypes⟩:=c
  simp only at hop hcallee
  subst hop hcallee
  intro K Q hK
  unfold Oper.wp
  rw [execOp_call_go,Aok hcal,Oper.upon_enter]
  have hargs:(#[]++args.map a.eval++#[]:Array Value)=(args.toList.map a.eval).toArray:=by
   apply Array.toList_inj.1
   simp
  rw [hargs]
  refine Calls.mono h fun en w'=>?_
  rintro ⟨v,g',rfl,k1,k2,k3⟩
  exact hK v g' w' k1 k2 k3
 ·cases hc
theorem Bgg {T:Tb} (hs:Ax P T) (h:Bp n B Iq s g a w) {nid:Nat} {o:Oper} {cs:List Bool} {av:AV} {s':St} (e:Bgf P T s nid o=some (cs,av,s')) (hcs:Vn cs=true):O1 P n B Iq s g a w o av s':=by
 unfold Bgf at e
 split at e
 ·rename_i f xs hc
  split at e
  ·rename_i vs hvs
   obtain ⟨k1,k2⟩:=Bc4 hs h (Aji h hvs) e hcs
   exact O1.call hc k1 k2
  ·cases e
 ·exact Aoi h (by rw [e]; simp [Nl,hcs])
theorem Auq {a b:List Bool}:Vn (a++b)=true→Vn a=true∧Vn b=true:=by
 induction a with
 | nil=>intro h; exact ⟨rfl,h⟩
 | cons x r ih=>
  intro h
  simp only [List.cons_append,Vn,Bool.and_eq_true] at h ⊢
  exact ⟨⟨h.1,(ih h.2).1⟩,(ih h.2).2⟩
theorem Bc5 {T:Tb} (hs:Ax P T) {ops:Array Oper} {Q:Exit→Act→World→Prop}:∀ {l:List Oper} {nid:Nat} {s:St} {g:Gh} {a:Act} {w:World} {cs:List Bool} {s':St},
  Bih P T n l nid s=some (cs,s')→Vn cs=true→Bp n B Iq s g a w→(∀ g' a' w',Go B Iq s g w s' g' w'→Bp n B Iq s' g' a' w'→Q .normal a' w')→wpList P ops Q l a w
 | [],nid,s,g,a,w,cs,s',e,hcs,h,hk=>by cases e; exact hk g a w (Go.refl _ _ _ _ _) h
 | o::l,nid,s,g,a,w,cs,s',e,hcs,h,hk=>by
  simp only [Bih] at e
  split at e
  ·cases e
  ·rename_i hg
   split at e
   ·rename_i cs1 av s1 e1
    split at e
    ·rename_i cs2 s2 e2
     cases e
     obtain ⟨b1,b2⟩:=Auq hcs
     unfold wpList
     have hw:Region.wanted o (yielded ops a.tmps)=true:=by unfold Region.wanted; rw [hg]
     rw [hw,if_pos rfl]
     left
     refine Bgg hs h e1 b1 _ Q fun v g' w' k1 k2 k3=>?_
     obtain ⟨r1,r2⟩:=Ps k2 o.dst k3
     exact Bc5 hs e2 b2 r1 fun g2 a2 w2 q1 q2=>hk g2 a2 w2 ((k1.trans r2).trans q1) q2
    ·cases e
   ·cases e
def Blm (r:Bool):Exit:=bif r then .ret else .normal
theorem Bij {T:Tb} (hs:Ax P T):∀ (c:Code) {nid:Nat} {s:St} {g:Gh} {a:Act} {w:World} {cs:List Bool} {r:Bool} {s':St} {Q:Exit→Act→World→Prop},
  A29 P T n c nid s=some (cs,r,s')→Vn cs=true→Bp n B Iq s g a w→(∀ g' a' w',Go B Iq s g w s' g' w'→Bp n B Iq s' g' a' w'→Q (Blm r) a' w')→c.wp P Q a w:=by
 intro c
 induction c with
 | skip=>intro nid s g a w cs r s' Q e hcs h hk; cases e; exact wp_skip (hk g a w (Go.refl _ _ _ _ _) h)
 | region id ops draw=>
  intro nid s g a w cs r s' Q e hcs h hk
  simp only [A29] at e
  cases draw with
  | true=>cases e
  | false=>
   simp only [cond_false] at e
   split at e
   ·rename_i cs1 s1 e1
    cases e
    exact wp_region_list (Bc5 hs e1 hcs h hk)
   ·cases e
 | seq x y ihx ihy=>
  intro nid s g a w cs r s' Q e hcs h hk
  simp only [A29] at e
  split at e
  ·rename_i cs1 s1 e1
   cases e
   exact wp_seq (ihx e1 hcs h fun g' a' w' k1 k2=>hk g' a' w' k1 k2)
  ·rename_i cs1 s1 e1
   split at e
   ·rename_i cs2 r2 s2 e2
    cases e
    obtain ⟨b1,b2⟩:=Auq hcs
    exact wp_seq (ihx e1 b1 h fun g' a' w' k1 k2=>ihy e2 b2 k2 fun g2 a2 w2 q1 q2=>hk g2 a2 w2 (k1.trans q1) q2)
   ·cases e
  ·cases e
 | cond c x y ihx ihy=>
  intro nid s g a w cs r s' Q e hcs h hk
  simp only [A29] at e
  split at e
  ·rename_i ht
   exact wp_cond_true (Dv h ht).1 (ihx e hcs h hk)
  ·rename_i ht
   exact wp_cond_false (Dv h ht).1 (ihy e hcs h hk)
  ·cases e
 | ret=>intro nid s g a w cs r s' Q e hcs h hk; cases e; exact wp_ret (hk g a w (Go.refl _ _ _ _ _) h)
 | _=>intros; rename_i e _ _ _; first | (cases e; done) | (simp [A29] at e; done)
theorem Agj (h:Bp n B Iq s g a w):∀ {rv:List ResultVar} {vs:List Vl},Um P s rv=some vs→
  ∃ us,(rv.mapM fun x:ResultVar=>(match x with | .tmp t=>pure (a.tmps.getD t undef) | .cell b t=>do loadVar t (← asAddr (a.tmps.getD b undef)):Sem Value)).run P w=.ok us w∧VLR s g w vs us
 | [],vs,e=>by cases e; exact ⟨[],by simp,trivial⟩
 | .tmp t::r,vs,e=>by
  simp only [Um] at e
  split at e
  ·rename_i v hv
   obtain ⟨vs',e1,rfl⟩:=Option.map_eq_some_iff.1 e
   obtain ⟨us,k1,k2⟩:=Agj h e1
   have k:=h.cell t
   rw [hv] at k
   refine ⟨a.tmps.getD t undef::us,?_,k,k2⟩
   simp only [List.mapM_cons,Sem.run_bind,Sem.run_pure,Result.andThen_ok]
   rw [k1]
   rfl
  ·cases e
 | .cell b t::r,vs,e=>by
  simp only [Um] at e
  split at e
  ·rename_i v hv
   obtain ⟨vs',e1,rfl⟩:=Option.map_eq_some_iff.1 e
   obtain ⟨us,k1,k2⟩:=Agj h e1
   unfold Ayy at hv
   obtain ⟨l,q1,hv⟩:=A6 hv
   obtain ⟨ls,q2,hv⟩:=A6 hv
   obtain ⟨hl,_⟩:=C7 h q1
   obtain ⟨ad,cs,hu,hL,hc⟩:=Bj2 h q2 hl
   obtain ⟨u,hr,hvv⟩:=W8 hv hL hc
   have hu':a.tmps.getD b undef=.pointer (some ad):=hu
   refine ⟨u::us,?_,hvv,k2⟩
   simp only [List.mapM_cons,Sem.run_bind,hu']
   have ha:(asAddr (.pointer (some ad)):Sem Addr).run P w=.ok ad w:=by simp [asAddr]
   rw [ha]
   simp only [Result.andThen_ok,hr,k1]
   rfl
  ·cases e
theorem Aur (h:Bp n B Iq s g a w) {fn:Func} {vs:List Vl} (e:Um P s fn.results.toList=some vs):∃ us,(results fn a.tmps).run P w=.ok (A54 us) w∧VLR s g w vs us:=by
 obtain ⟨us,k1,k2⟩:=Agj h e
 refine ⟨us,?_,k2⟩
 unfold results
 rw [Array.mapM_eq_mapM_toList]
 simp only [Sem.run_bind,Sem.run_map]
 refine Eq.trans (congrArg (fun r:Result (List Value)=>(r.andThen fun a w'=>Result.ok a.toArray w').andThen fun a w'=>Sem.run P (pure (if h:a.size=1 then a[0] else Value.tuple a)) w') k1) ?_
 clear k1 k2
 match us with
 | []=>rfl
 | [u]=>rfl
 | u::v::us=>rfl
theorem Bik {T:Tb} (hs:Ax P T) (h:Bp n B Iq s g a w) {f:FuncId} {fn:Func} (hf:P.funcs[f]? = some fn) {vs:List Vl} {args:List Value} (hv:VLR s g w vs args) {nid:Nat} {av:AV} {s':St}
  (e:Nl (Bii P T fn vs s nid)=some (av,s')):Ajj P f args.toArray n B Iq s g a w av s':=by
 obtain ⟨cs,e,hcs⟩:=Cn e
 unfold Bii at e
 split at e
 ·cases e
 ·rename_i c hb
  cases hle:Nat.ble vs.length fn.ntmps with
  | false=>rw [hle] at e; cases e
  | true=>
   rw [hle] at e
   simp only [cond_true] at e
   have hle:=Nat.le_of_ble_eq_true hle
   split at e
   ·rename_i cs1 r1 s1 e1
    split at e
    ·rename_i vs' e2
     cases e
     have hlen:=hv.length
     have hent:Bp fn.ntmps B Iq (A6j s vs) g { tmps:=args.toArray++Array.replicate (fn.ntmps - args.toArray.size) undef,defers:=[] } w:=by
      refine ⟨by simp; omega,rfl,h.base,fun i=>?_,fun id=>?_,h.inj,h.lt,h.avB,h.inn⟩
      ·show c9 _ _ _ (match vs[i]? with | some v=>.vl v | none=>.dead) _
       cases hi:vs[i]? with
       | none=>trivial
       | some v=>
        obtain ⟨u,q1,q2⟩:=hv.get hi
        have hlt:=(List.getElem?_eq_some_iff.1 q1).1
        have:(args.toArray++Array.replicate (fn.ntmps - args.toArray.size) undef).getD i undef=u:=by
         rw [Array.getD_eq_getD_getElem?,Array.getElem?_append_left (by simpa using hlt),List.getElem?_toArray,q1]
         rfl
        rw [this]
        exact VlR.step (s:=s) (s':=A6j s vs) (g:=g) (g':=g) (w:=w) (w':=w) (fun b hb _=>⟨hb,rfl⟩) (fun _=>Az.same rfl rfl rfl) q2
      ·exact Lr.step (s:=s) (s':=A6j s vs) (g:=g) (g':=g) (w:=w) (w':=w) (fun b hb _=>⟨hb,rfl⟩) (fun _=>Az.same rfl rfl rfl) rfl rfl (fun _ _=>rfl) (fun _=>⟨rfl,fun _ _=>rfl⟩) (h.res id)
     refine calls_of_wp hf hb ?_
     refine Bij hs c e1 hcs hent fun g' a' w' k1 k2=>?_
     obtain ⟨us,q1,q2⟩:=Aur k2 e2
     have hgo:Go B Iq s g w ⟨s.cell,s1.res⟩ g' w':=⟨k1.kp,fun b hb hl=>k1.S b hb hl,fun id=>k1.ref id,k1.av⟩
     have hrel:Bp n B Iq ⟨s.cell,s1.res⟩ g' a w':=by
      refine ⟨h.size,h.defers,Nat.le_trans h.base k1.kp.size,fun i=>c9.step (fun b hb hl=>hgo.S b hb hl) (fun id=>hgo.ref id) (h.cell i),fun id=>?_,k2.inj,k2.lt,k2.avB,k2.inn⟩
      exact Lr.step (s:=s1) (s':=⟨s.cell,s1.res⟩) (g:=g') (g':=g') (w:=w') (w':=w') (fun b hb _=>⟨hb,rfl⟩) (fun _=>Az.same rfl rfl rfl) rfl rfl (fun _ _=>rfl) (fun _=>⟨rfl,fun _ _=>rfl⟩) (k2.res id)
     have hav:c9 ⟨s.cell,s1.res⟩ g' w' (Bbf vs') (A54 us):=c9.step (s:=s1) (s':=⟨s.cell,s1.res⟩) (g:=g') (g':=g') (w:=w') (w':=w') (fun b hb _=>⟨hb,rfl⟩) (fun _=>Az.same rfl rfl rfl) (Bf3 q2)
     cases r1
     ·exact ⟨k2.defers,_,q1,_,g',rfl,hgo,hrel,hav⟩
     ·exact ⟨k2.defers,_,q1,_,g',rfl,hgo,hrel,hav⟩
    ·cases e
   ·cases e
theorem Bgh:∀ {ls:List Lf} {cs:List Value},I6 s g w ls cs→VLR s g w (Bif ls) cs
 | [],[],_=>trivial
 | [],_::_,h=>h.elim
 | _::_,[],h=>h.elim
 | _::_,_::_,h=>⟨h.1,Bgh h.2⟩
theorem VLR.append:∀ {vs vs':List Vl} {us us':List Value},VLR s g w vs us→VLR s g w vs' us'→VLR s g w (vs++vs') (us++us')
 | [],_,[],_,_,h'=>h'
 | [],_,_::_,_,h,_=>h.elim
 | _::_,_,[],_,h,_=>h.elim
 | _::_,_,_::_,_,h,h'=>⟨h.1,VLR.append h.2 h'⟩
theorem Agk {sigs:Tb} (hs:Ax P sigs) (h:Bp n B Iq s g a w) {nid:Nat} {o:Oper} {av:AV} {s':St} (e:X3 P sigs s nid o=some (av,s')):O1 P n B Iq s g a w o av s':=by
 unfold X3 at e
 split at e
 ·rename_i f xs hc
  split at e
  ·rename_i vs hvs
   have hV:=Aji h hvs
   split at e
   ·rename_i sd hsd
    obtain ⟨hcal,hsound⟩:=hs.sd f sd hsd
    exact O1.call hc hcal (A4l h hsound hV e)
   ·split at e
    ·rename_i fn hfn
     obtain ⟨q1,q2,q3⟩:=hs.inl f fn hfn
     exact O1.call hc ⟨fn,q1,q2,q3⟩ (Bik hs h q1 hV e)
    ·obtain ⟨cs,e1,hcs⟩:=Cn e
     obtain ⟨q1,q2⟩:=Bc4 hs h hV e1 hcs
     exact O1.call hc q1 q2
  ·cases e
 ·split at e
  ·rename_i f xs ls hc
   split at e
   ·rename_i vs hvs
    split at e
    ·rename_i sd hsd
     obtain ⟨hcal,hsound⟩:=hs.sd f sd hsd
     obtain ⟨dst,op,type,pos,after,guard⟩:=o
     unfold Aoj at hc
     split at hc
     ·rename_i c hop
      split at hc
      ·rename_i t hcallee
       split at hc<;>cases hc
       rename_i hcell
       obtain ⟨callee,args,argTypes⟩:=c
       simp only at hop hcallee
       subst hop hcallee
       have k:=h.cell t
       rw [hcell] at k
       obtain ⟨caps,hu,hL⟩:=k
       have hu':a.eval (.tmp t)=.func (.func f) #[] caps:=hu
       intro K Q hK
       unfold Oper.wp
       have hex:execOp a.eval ⟨dst,.call ⟨.value (.tmp t),args,argTypes⟩,type,pos,after,guard⟩=callFunc f (#[]++args.map a.eval++caps):=by
        simp only [execOp,resolve,hu',Deferred.ofValue]
        rfl
       rw [hex,Aok hcal,Oper.upon_enter]
       have hargs:(#[]++args.map a.eval++caps:Array Value)=(args.toList.map a.eval++caps.toList).toArray:=by
        apply Array.toList_inj.1
        simp
       rw [hargs]
       refine Calls.mono (A4l h hsound (VLR.append (Aji h hvs) (Bgh hL)) e) fun en w'=>?_
       rintro ⟨v,g',rfl,k1,k2,k3⟩
       exact hK v g' w' k1 k2 k3
      ·cases hc
     ·cases hc
    ·cases e
   ·cases e
  ·exact Bgd h e
end
end
section
def Al4:Lf→List Nat
 | .row id=>[id]
 | .ptr id _=>[id]
 | .rp id _ _=>[id]
 | .sp id=>[id]
 | _=>[]
def Adk:List Lf→List Nat
 | []=>[]
 | l::r=>Al4 l++Adk r
def Azm (v:Vl):List Nat:=Adk v.ls
def Ayg:List Vl→List Nat
 | []=>[]
 | v::r=>Azm v++Ayg r
def Re:AV→List Nat
 | .dead=>[]
 | .vl v=>Azm v
 | .tp vs=>Ayg vs
 | .fn _ ls=>Adk ls
def Adl:Jw→List Nat
 | .box _ ls=>Adk ls
 | _=>[]
def Aus:Jw→List Nat
 | .last _ _ _ _ j=>[j]
 | .mid _ _ _ _ j=>[j]
 | _=>[]
def Om:List Operand→List Nat
 | []=>[]
 | .tmp t::r=>t::Om r
 | _::r=>Om r
def Ez (o:Oper):List Nat:=Om o.op.operands.toList
def Mn (l:List Nat) (i:Nat):Bool:=match l with
 | []=>false
 | j::r=>Nat.beq j i || Mn r i
theorem Df {l:List Nat} {i:Nat}:Mn l i=true↔i∈l:=by
 induction l with
 | nil=>simp [Mn]
 | cons j r ih=>
  simp only [Mn,Bool.or_eq_true,ih,List.mem_cons,Nat.beq_eq]
  constructor
  ·rintro (h | h)
   ·exact .inl h.symm
   ·exact .inr h
  ·rintro (h | h)
   ·exact .inl h.symm
   ·exact .inr h
def Ks (s:St):List Nat→List Nat
 | []=>[]
 | i::r=>Re (s.cell i)++Ks s r
def Mo (s:St):List Nat→List Nat
 | []=>[]
 | i::r=>Adl (s.res i)++Mo s r
def Aol (s:St) (sl:List Nat):List Nat:=
 let l0:=Ks s sl
 let l1:=l0++Mo s l0
 l1++Mo s l1
def Al5 (s:St):List Nat→List Nat
 | []=>[]
 | i::r=>Aus (s.res i)++Al5 s r
def Rf (o:Oper):Bool:=match o.op with
 | .move x=>!Aup x
 | .assign x=>!Aup x
 | .indexAddr _ _ _=>true
 | .call c=>(match c.callee with
  | .builtin .len=>true
  | _=>false)
 | _=>false
def A3a (o:Oper):Bool:=match o.op with
 | .move x=>!Aup x
 | .assign x=>!Aup x
 | _=>false
theorem Bgi {o:Oper} (h:A3a o=true):Rf o=true:=by
 unfold A3a at h
 unfold Rf
 split at h
 ·rename_i q; rw [q]; exact h
 ·rename_i q; rw [q]; exact h
 ·cases h
def X5 (s:St) (o:Oper):List Nat:=if A3a o then [] else if Rf o then Aol s (Ez o) else Aol s (Ez o)++Al5 s (Aol s (Ez o))
def Aom (l m:List Nat):Bool:=match l with
 | []=>true
 | i::r=>Mn m i&&Aom r m
theorem Asa {l m:List Nat}:Aom l m=true↔∀ i∈l,i∈m:=by
 induction l with
 | nil=>simp [Aom]
 | cons j r ih=>simp [Aom,Df,ih]
def Av2:Nat:=6
def Q5 (nid:Nat):List Nat:=[nid,nid + 1,nid + 2,nid + 3,nid + 4,nid + 5]
def St.view (s:St) (sl ids:List Nat):St:=⟨fun i=>if Mn sl i then s.cell i else .dead,fun id=>if Mn ids id then s.res id else .unborn⟩
def St.lay (s v:St) (m:List Nat):St:=⟨s.cell,fun id=>if Mn m id then v.res id else s.res id⟩
def Xd (o:Oper) (s:St) (m:List Nat):Bool:=Aom (Mo s m) m&&(Rf o || Aom (Al5 s m) m)
def Akt (P:Program) (sigs:Tb) (s:St) (nid:Nat) (o:Oper):Option (AV×St):=
 let sl:=Ez o
 let ids:=X5 s o
 if Tg s nid Av2 then (if Xd o s ids then (X3 P sigs.dr (s.view sl ids) nid o).bind fun p=>
  if A3a o || Aom (Re p.1) (ids++Q5 nid) then (if Xd o p.2 (ids++Q5 nid) then some p else none) else none
 else none) else none
section
variable {P:Program} {n B:Nat} {Iq:List Nat} {s:St} {g:Gh} {a:Act} {w:World}
theorem Agl (h:∀ id,Lr s g w id (s.res id)) {id b:Nat} (hb:g.blk id=some b):(s.res id).live=true:=by
 have r:=h id
 cases hr:s.res id with
 | box T ls=>rfl
 | row e t xs=>rfl
 | unborn=>rw [hr] at r; exact absurd (hb.symm.trans r) (by simp)
 | dead=>rw [hr] at r; exact absurd (hb.symm.trans r) (by simp)
 | frozen t xs=>rw [hr] at r; exact absurd (hb.symm.trans r.2) (by simp)
 | last _ _ _ _ _=>rfl
 | mid _ _ _ _ _=>rfl
 | map _ _=>rfl
 | iter _ _ _ _=>rfl
theorem Cx.part {s s':St} {g g':Gh} {w:World} {m:List Nat} (hS:∀ b,Eg s g b→b < w.heap.size→Eg s' g' b) (hm:∀ id∈m,s'.res id=s.res id∧g'.blk id=g.blk id∧g'.hdr id=g.hdr id):
  ∀ {l:Lf} {u:Value},(∀ id∈Al4 l,id∈m)→Cx s g w l u→Cx s' g' w l u
 | .c _,_,_,h=>h
 | .sl _ _,_,_,h=>Ty.K_keep (fun b hb hl=>⟨hS b hb hl,rfl⟩) h
 | .row id,u,hi,h=>by
  obtain ⟨e1,e2,e3⟩:=hm id (hi id (by simp [Al4]))
  simp only [Cx] at h ⊢
  rw [e1,e3]
  exact h
 | .ptr id off,u,hi,h=>by
  obtain ⟨e1,e2,e3⟩:=hm id (hi id (by simp [Al4]))
  simp only [Cx] at h ⊢
  rw [e1,e2]
  exact h
 | .ep t xs i off,u,_,⟨ad,cs,h1,h2,h3,h4,h5⟩=>⟨ad,cs,h1,hS _ h2 h3,h3,Ty.K_keep (fun b hb hl=>⟨hS b hb hl,rfl⟩) h4,h5⟩
 | .rp id i off,u,hi,h=>by
  obtain ⟨e1,e2,e3⟩:=hm id (hi id (by simp [Al4]))
  simp only [Cx] at h ⊢
  rw [e1,e2]
  exact h
 | .sp id,u,hi,h=>by
  obtain ⟨e1,e2,e3⟩:=hm id (hi id (by simp [Al4]))
  simp only [Cx] at h ⊢
  rw [e1,e2]
  exact h
section
variable {s':St} {g':Gh} {m:List Nat} (hS:∀ b,Eg s g b→b < w.heap.size→Eg s' g' b) (hm:∀ id∈m,s'.res id=s.res id∧g'.blk id=g.blk id∧g'.hdr id=g.hdr id)
 include hS hm
theorem I6.part:∀ {ls:List Lf} {cs:List Value},(∀ id∈Adk ls,id∈m)→I6 s g w ls cs→I6 s' g' w ls cs
 | [],[],_,_=>trivial
 | [],_::_,_,h=>h.elim
 | _::_,[],_,h=>h.elim
 | l::ls,_::_,hi,h=>⟨⟨Cx.part hS hm (fun id q=>hi id (by simp [Adk,q])) h.1.1,h.1.2⟩,I6.part (fun id q=>hi id (by simp [Adk,q])) h.2⟩
theorem VlR.part {v:Vl} {u:Value} (hi:∀ id∈Azm v,id∈m) (h:VlR s g w v u):VlR s' g' w v u:=by
 cases v with
 | lf l=>exact ⟨Cx.part hS hm (fun id q=>hi id (by simp [Azm,Vl.ls,Adk,q])) h.1,h.2⟩
 | ag ls=>
  obtain ⟨cs,e,hL⟩:=h
  exact ⟨cs,e,I6.part hS hm hi hL⟩
theorem c9.part {v:AV} {u:Value} (hi:∀ id∈Re v,id∈m) (h:c9 s g w v u):c9 s' g' w v u:=by
 cases v with
 | dead=>trivial
 | vl v=>exact VlR.part hS hm hi h
 | tp vs=>
  obtain ⟨us,h1,h2,h3⟩:=h
  refine ⟨us,h1,h2,fun j l hl=>?_⟩
  obtain ⟨v,e1,e2⟩:=h3 j l hl
  refine ⟨v,e1,VlR.part hS hm (fun id q=>hi id ?_) e2⟩
  have hmem:=List.mem_of_getElem? hl
  clear h1 h2 h3 hl e1 e2 hi
  induction vs with
  | nil=>cases hmem
  | cons x r ih=>
   rcases List.mem_cons.1 hmem with rfl | hmem
   ·simp [Re,Ayg,q]
   ·have:=ih hmem
    simp only [Re,Ayg,List.mem_append] at this ⊢
    exact .inr this
 | fn f ls=>
  obtain ⟨cs,h1,h2⟩:=h
  exact ⟨cs,h1,I6.part hS hm hi h2⟩
theorem Lr.part {id:Nat} (hid:id∈m) {r:Jw} (hi:∀ j∈Adl r,j∈m) (hwk:∀ j∈Aus r,j∈m) (hn:r.nst=true→g'.inn id=g.inn id) (h:Lr s g w id r):Lr s' g' w id r:=by
 obtain ⟨e1,e2,e3⟩:=hm id hid
 cases r with
 | unborn=>exact e2.trans h
 | dead=>exact e2.trans h
 | box T ls=>
  obtain ⟨b,cs,h1,h2,h3⟩:=h
  exact ⟨b,cs,e2.trans h1,h2,I6.part hS hm hi h3⟩
 | row e t xs=>
  obtain ⟨cs,h1,h2,h3⟩:=h
  exact ⟨cs,by rw [e3]; exact h1,h2.imp hS,by rw [e2,e3]; exact h3⟩
 | frozen t xs=>
  obtain ⟨h1,h2⟩:=h
  exact ⟨by rw [e3]; exact Ty.K_keep (fun b hb hl=>⟨hS b hb hl,rfl⟩) h1,e2.trans h2⟩
 | last e t xs c j=>
  obtain ⟨cs,h1,h2,h3,h4⟩:=h
  obtain ⟨q1,q2,q3⟩:=hm j (hwk j (by simp [Aus]))
  refine ⟨cs,by rw [e3]; exact h1,by rw [hn rfl]; exact h2.keep (fun b hb hl=>⟨hS b hb hl,rfl⟩) (fun _ _=>rfl),by rw [e2,e3]; exact h3,fun u hc hu=>?_⟩
  rw [q1,q3]
  exact h4 u hc hu
 | mid e t xs i j=>
  obtain ⟨cs,h1,h2,h3,h4⟩:=h
  obtain ⟨q1,q2,q3⟩:=hm j (hwk j (by simp [Aus]))
  refine ⟨cs,by rw [e3]; exact h1,by rw [hn rfl]; exact h2.keep (fun b hb hl=>⟨hS b hb hl,rfl⟩) (fun _ _=>rfl),by rw [e2,e3]; exact h3,fun u hu=>?_⟩
  rw [q1,q3]
  exact h4 u hu
 | map t xs=>
  obtain ⟨b,es,clock,h1,h2,h3⟩:=h
  exact ⟨b,es,clock,e2.trans h1,e3.trans h2,h3⟩
 | iter t xs seen cur=>
  obtain ⟨b,r,es,clock,since,c0,sn,h1,h2,h3,h4,h5,h6⟩:=h
  exact ⟨b,r,es,clock,since,c0,sn,e2.trans h1,e3.trans h2,h3,hS b h4 h5,h5,h6⟩
end
theorem Azn {i id:Nat}:∀ {l:List Nat},i∈l→id∈Aus (s.res i)→id∈Al5 s l
 | j::r,h,q=>by
  rcases List.mem_cons.1 h with rfl | h
  ·exact List.mem_append_left _ q
  ·exact List.mem_append_right _ (Azn h q)
def Gh.view (s:St) (g:Gh) (ids:List Nat):Gh:=⟨fun id=>if Mn ids id then g.blk id else none,g.hdr,fun b=>g.av b∨(∃ id,id ∉ ids∧g.blk id=some b)∨∃ id,id ∉ ids∧(s.res id).nst=true∧g.inn id b,g.innL⟩
def Gh.ownL (g:Gh) (s:St) (ids:List Nat):List Nat:=ids.filterMap g.blk++ids.flatMap fun id=>bif (s.res id).nst then g.innL id else []
theorem Aax {ids:List Nat} {b:Nat}:b∈g.ownL s ids↔(∃ id∈ids,g.blk id=some b)∨∃ id∈ids,(s.res id).nst=true∧g.inn id b:=by
 unfold Gh.ownL
 rw [List.mem_append,List.mem_filterMap,List.mem_flatMap]
 refine or_congr Iff.rfl ⟨fun ⟨id,h1,h2⟩=>?_,fun ⟨id,h1,h2,h3⟩=>⟨id,h1,by rw [h2]; exact h3⟩⟩
 cases hn:(s.res id).nst with
 | false=>rw [hn] at h2; cases h2
 | true=>rw [hn] at h2; exact ⟨id,h1,hn,h2⟩
theorem Aku {i id:Nat}:∀ {sl:List Nat},i∈sl→id∈Re (s.cell i)→id∈Ks s sl
 | j::r,h,q=>by
  rcases List.mem_cons.1 h with rfl | h
  ·exact List.mem_append_left _ q
  ·exact List.mem_append_right _ (Aku h q)
theorem Aut {i id:Nat}:∀ {l:List Nat},i∈l→id∈Adl (s.res i)→id∈Mo s l
 | j::r,h,q=>by
  rcases List.mem_cons.1 h with rfl | h
  ·exact List.mem_append_left _ q
  ·exact List.mem_append_right _ (Aut h q)
theorem Azo {sl ids:List Nat} {id:Nat} (h:((s.view sl ids).res id).nst=true):(s.res id).nst=true∧id∈ids:=by
 have h:(if Mn ids id then s.res id else .unborn:Jw).nst=true:=h
 split at h
 ·rename_i hid
  exact ⟨h,Df.1 hid⟩
 ·cases h
theorem Bgj {sl ids:List Nat} (b:Nat) (hb:Eg s g b) (hres:∀ id,Lr s g w id (s.res id)):Eg (s.view sl ids) (g.view s ids) b:=by
 refine ⟨?_,fun id hl hk=>?_,fun id hn hi=>?_⟩
 ·rintro (q | ⟨id,q1,q2⟩ | ⟨id,q1,q2,q3⟩)
  ·exact hb.1 q
  ·exact hb.2.1 id (Agl hres q2) q2
  ·exact hb.2.2 id q2 q3
 ·simp only [Gh.view] at hk
  split at hk
  ·rename_i hid
   exact hb.2.1 id (Agl hres hk) hk
  ·cases hk
 ·exact hb.2.2 id (Azo hn).1 hi
theorem Bgk (h:Bp n B Iq s g a w) {sl ids:List Nat} (hc:∀ i∈sl,∀ id∈Re (s.cell i),id∈ids) (hr:∀ i∈ids,∀ id∈Adl (s.res i),id∈ids) (hw:∀ i∈ids,∀ id∈Aus (s.res i),id∈ids):
  Bp n w.heap.size (g.ownL s ids) (s.view sl ids) (g.view s ids) a w:=by
 have hS:∀ b,Eg s g b→b < w.heap.size→Eg (s.view sl ids) (g.view s ids) b:=fun b hb _=>Bgj b hb h.res
 have hm:∀ id∈ids,(s.view sl ids).res id=s.res id∧(g.view s ids).blk id=g.blk id∧(g.view s ids).hdr id=g.hdr id:=by
  intro id hid
  have:=Df.2 hid
  refine ⟨?_,?_,rfl⟩
  ·simp [St.view,this]
  ·simp [Gh.view,this]
 refine ⟨h.size,h.defers,Nat.le_refl _,fun i=>?_,fun id=>?_,fun id id' b q1 q2=>?_,fun id b q=>?_,fun b q=>?_,fun id b q1 q2=>?_⟩
 ·show c9 _ _ _ (if Mn sl i then s.cell i else .dead) _
  split
  ·rename_i hi
   exact c9.part hS hm (hc i (Df.1 hi)) (h.cell i)
  ·trivial
 ·by_cases hid:id∈ids
  ·rw [(hm id hid).1]
   exact Lr.part hS hm hid (hr id hid) (hw id hid) (fun _=>rfl) (h.res id)
  ·have hf:Mn ids id=false:=by
    cases hq:Mn ids id
    ·rfl
    ·exact absurd (Df.1 hq) hid
   have:(s.view sl ids).res id=.unborn:=by simp [St.view,hf]
   rw [this]
   show (g.view s ids).blk id=none
   simp [Gh.view,hf]
 ·simp only [Gh.view] at q1 q2
  split at q1
  ·split at q2
   ·exact h.inj id id' b q1 q2
   ·cases q2
  ·cases q1
 ·simp only [Gh.view] at q
  split at q
  ·rename_i hid
   have hid:=Df.1 hid
   refine ⟨(h.lt id b q).1,.inl (Aax.2 (.inl ⟨id,hid,q⟩)),?_⟩
   rintro (q2 | ⟨j,q2,q3⟩ | ⟨j,q2,q3,q4⟩)
   ·exact (h.lt id b q).2.2 q2
   ·exact q2 (by rw [h.inj j id b q3 q]; exact hid)
   ·exact (h.inn j b q3 q4).2.1 id q
  ·cases q
 ·rcases q with q | ⟨id,q1,q2⟩ | ⟨id,q1,q2,q3⟩
  ·have:=h.avB b q
   have:=h.base
   omega
  ·exact (h.lt id b q2).1
  ·exact (h.inn id b q2 q3).1.1
 ·obtain ⟨k1,k2⟩:=Azo q1
  obtain ⟨⟨p1,p2,p3⟩,p4,p5⟩:=h.inn id b k1 q2
  refine ⟨⟨p1,.inl (Aax.2 (.inr ⟨id,k2,k1,q2⟩)),?_⟩,fun id' hb=>?_,fun id' hne hn hi=>p5 id' hne (Azo hn).1 hi⟩
  ·rintro (z | ⟨j,z1,z2⟩ | ⟨j,z1,z2,z3⟩)
   ·exact p3 z
   ·exact p4 j z2
   ·exact p5 j (fun e=>z1 (by rw [e]; exact k2)) z2 z3
  ·simp only [Gh.view] at hb
   split at hb
   ·exact p4 id' hb
   ·cases hb
theorem A8p {l m:List Nat} (h:Aom (Mo s l) m=true):∀ i∈l,∀ id∈Adl (s.res i),id∈m:=
 fun i hi id hid=>Asa.1 h id (Aut hi hid)
theorem Auu {sl:List Nat}:∀ i∈sl,∀ id∈Re (s.cell i),id∈Aol s sl:=
 fun i hi id hid=>List.mem_append_left _ (List.mem_append_left _ (Aku hi hid))
theorem Al6 {nid:Nat} (h:Tg s nid Av2=true):∀ id∈Q5 nid,s.res id=.unborn:=by
 intro id hid
 have:nid≤id∧id < nid + 6:=by
  simp only [Q5,List.mem_cons,List.not_mem_nil,or_false] at hid
  omega
 exact Aza h id this.1 this.2
theorem Bkb (h:Bp n B Iq s g a w) {sl ids:List Nat} {nid:Nat} {v':St} {gv':Gh} {w':World} {av:AV} (hfr:∀ id∈Q5 nid,s.res id=.unborn)
  (hgo:Go w.heap.size (g.ownL s ids) (s.view sl ids) (g.view s ids) w v' gv' w') (hR:Bp n w.heap.size (g.ownL s ids) v' gv' a w')
  (hav:∀ id∈Re av,id∈ids++Q5 nid) (hres:∀ i∈ids++Q5 nid,∀ id∈Adl (v'.res i),id∈ids++Q5 nid) (hwk:∀ i∈ids++Q5 nid,∀ id∈Aus (v'.res i),id∈ids++Q5 nid):
  ∃ g',Go B Iq s g w (s.lay v' (ids++Q5 nid)) g' w'∧Bp n B Iq (s.lay v' (ids++Q5 nid)) g' a w'∧∀ u,c9 v' gv' w' av u→c9 (s.lay v' (ids++Q5 nid)) g' w' av u:=by
 generalize hm:ids++Q5 nid=m at hav hres hwk ⊢
 have hidm:∀ id∈ids,id∈m:=fun id q=>by rw [← hm]; exact List.mem_append_left _ q
 have hmem:∀ id∈m,id∈ids∨id∈Q5 nid:=fun id q=>by rw [← hm] at q; exact List.mem_append.1 q
 have hin:∀ id,Mn m id=true↔id∈m:=fun id=>Df
 have hout:∀ {id},id ∉ m→Mn m id=false:=fun {id} q=>by
  cases hq:Mn m id
  ·rfl
  ·exact absurd ((hin id).1 hq) q
 refine ⟨⟨fun id=>if Mn m id then gv'.blk id else g.blk id,fun id=>if Mn m id then gv'.hdr id else g.hdr id,g.av,fun id=>if Mn m id then gv'.innL id else g.innL id⟩,?_⟩
 generalize hg':(⟨fun id=>if Mn m id then gv'.blk id else g.blk id,fun id=>if Mn m id then gv'.hdr id else g.hdr id,g.av,fun id=>if Mn m id then gv'.innL id else g.innL id⟩:Gh)=g'
 generalize hs':s.lay v' m=s'
 have e1:∀ id∈m,s'.res id=v'.res id∧g'.blk id=gv'.blk id∧g'.hdr id=gv'.hdr id:=by
  intro id hid
  have:=(hin id).2 hid
  subst hs' hg'
  simp [St.lay,this]
 have e2:∀ id,id ∉ m→s'.res id=s.res id∧g'.blk id=g.blk id∧g'.hdr id=g.hdr id:=by
  intro id hid
  have:=hout hid
  subst hs' hg'
  simp [St.lay,this]
 have n1:∀ id∈m,g'.inn id=gv'.inn id:=fun id hid=>by
  have:=(hin id).2 hid
  subst hg'
  funext b
  simp [Gh.inn,this]
 have n2:∀ id,id ∉ m→g'.inn id=g.inn id:=fun id hid=>by
  have:=hout hid
  subst hg'
  funext b
  simp [Gh.inn,this]
 have ecell:s'.cell=s.cell:=by subst hs'; rfl
 have eav:g'.av=g.av:=by subst hg'; rfl
 have eavv:gv'.av=(g.view s ids).av:=hgo.av
 have liveBlk:∀ id b,g.blk id=some b→(s.res id).live=true:=fun id b q=>Agl h.res q
 have hS2:∀ b,Eg v' gv' b→b < w'.heap.size→Eg s' g' b:=by
  rintro b ⟨q1,q2⟩ _
  rw [eavv] at q1
  refine ⟨by rw [eav]; exact fun q=>q1 (.inl q),fun id hl hk=>?_,fun id hn hi=>?_⟩
  ·by_cases hid:id∈m
   ·obtain ⟨a1,a2,a3⟩:=e1 id hid
    rw [a1] at hl
    rw [a2] at hk
    exact q2.1 id hl hk
   ·obtain ⟨a1,a2,a3⟩:=e2 id hid
    rw [a2] at hk
    exact q1 (.inr (.inl ⟨id,fun q=>hid (hidm id q),hk⟩))
  ·by_cases hid:id∈m
   ·rw [(e1 id hid).1] at hn
    rw [n1 id hid] at hi
    exact q2.2 id hn hi
   ·rw [(e2 id hid).1] at hn
    rw [n2 id hid] at hi
    exact q1 (.inr (.inr ⟨id,fun q=>hid (hidm id q),hn,hi⟩))
 have hS:∀ b,Eg s g b→b < w.heap.size→Eg s' g' b∧w'.heap[b]? = w.heap[b]? := by
  intro b hb hlt
  obtain ⟨k1,k2⟩:=hgo.S b (Bgj b hb h.res) hlt
  exact ⟨hS2 b k1 (Nat.lt_of_lt_of_le hlt hgo.kp.size),k2⟩
 have hI:∀ id,Az s g s' g' id:=by
  intro id
  by_cases hid:id∈m
  ·obtain ⟨a1,a2,a3⟩:=e1 id hid
   rcases hmem id hid with q | q
   ·have r:=hgo.ref id
    unfold Az at r ⊢
    have hq:=Df.2 q
    have v1:(s.view sl ids).res id=s.res id:=by simp [St.view,hq]
    have v2:(g.view s ids).blk id=g.blk id:=by simp [Gh.view,hq]
    rw [v1,v2] at r
    rw [a1,a2,a3]
    exact r
   ·unfold Az
    rw [hfr id q]
    exact .inr trivial
  ·obtain ⟨a1,a2,a3⟩:=e2 id hid
   exact Az.same a1 a2 a3
 have hKp:Kp B Iq w w':=⟨hgo.kp.os,hgo.kp.tape,hgo.kp.output,hgo.kp.size,fun k hk hkI=>by
  refine hgo.kp.block k (Nat.lt_of_lt_of_le hk h.base) (fun q=>?_)
  have:k∈Iq∨B≤k:=by
   rcases Aax.1 q with ⟨id,q1,q2⟩ | ⟨id,q1,q2,q3⟩
   ·exact (h.lt id k q2).2.1
   ·exact (h.inn id k q2 q3).1.2.1
  rcases this with q3 | q3
  ·exact hkI q3
  ·omega⟩
 have hlow:∀ b,(b∈g.ownL s ids∨w.heap.size≤b)→b∈Iq∨B≤b:=fun b q=>by
  rcases q with q | q
  ·rcases Aax.1 q with ⟨id,q1,q2⟩ | ⟨id,q1,q2,q3⟩
   ·exact (h.lt id b q2).2.1
   ·exact (h.inn id b q2 q3).1.2.1
  ·exact .inr (Nat.le_trans h.base q)
 refine ⟨⟨hKp,hS,hI,eav⟩,?_,fun u hu=>c9.part hS2 e1 hav hu⟩
 refine h.step h.size h.defers hgo.kp.size hS hI (fun i=>.inl ⟨by rw [ecell],rfl⟩) (fun j=>?_) (fun i j b hi hj=>?_) (fun i b hi=>?_) eav ⟨fun id h1 h2=>?_,fun id b h1 h2=>?_⟩
 ·by_cases hj:j∈m
  ·right
   rw [(e1 j hj).1]
   exact Lr.part hS2 e1 hj (hres j hj) (hwk j hj) (fun _=>n1 j hj) (hR.res j)
  ·left
   obtain ⟨a1,a2,a3⟩:=e2 j hj
   refine ⟨a1,a2,a3,fun b hb=>hgo.kp.block b (h.lt j b hb).1 (fun q=>?_)⟩
   rcases Aax.1 q with ⟨id,q1,q2⟩ | ⟨id,q1,q2,q3⟩
   ·exact hj (by rw [h.inj j id b hb q2]; exact hidm id q1)
   ·exact (h.inn id b q2 q3).2.1 j hb
 ·have far:∀ i j b,i∈m→g'.blk i=some b→j ∉ m→g'.blk j=some b→False:=by
   intro i j b him hi hjm hj
   rw [(e1 i him).2.1] at hi
   rw [(e2 j hjm).2.1] at hj
   refine (hR.lt i b hi).2.2 ?_
   rw [eavv]
   exact .inr (.inl ⟨j,fun q=>hjm (hidm j q),hj⟩)
  by_cases him:i∈m<;>by_cases hjm:j∈m
  ·rw [(e1 i him).2.1] at hi
   rw [(e1 j hjm).2.1] at hj
   exact hR.inj i j b hi hj
  ·exact (far i j b him hi hjm hj).elim
  ·exact (far j i b hjm hj him hi).elim
  ·rw [(e2 i him).2.1] at hi
   rw [(e2 j hjm).2.1] at hj
   exact h.inj i j b hi hj
 ·by_cases him:i∈m
  ·rw [(e1 i him).2.1] at hi
   obtain ⟨k1,k2,k3⟩:=hR.lt i b hi
   rw [eavv] at k3
   refine ⟨k1,?_,fun q=>k3 (.inl q)⟩
   exact hlow b k2
  ·rw [(e2 i him).2.1] at hi
   obtain ⟨k1,k2⟩:=h.lt i b hi
   exact ⟨Nat.lt_of_lt_of_le k1 hgo.kp.size,k2⟩
 ·by_cases hid:id∈m
  ·right
   rw [(e1 id hid).1]
   exact Lr.part hS2 e1 hid (hres id hid) (hwk id hid) (fun _=>n1 id hid) (hR.res id)
  ·left
   refine ⟨n2 id hid,fun b hb=>?_⟩
   obtain ⟨⟨p1,p2,p3⟩,p4,p5⟩:=h.inn id b h2 hb
   refine hgo.kp.block b p1 fun q=>?_
   rcases Aax.1 q with ⟨j,q1,q2⟩ | ⟨j,q1,q2,q3⟩
   ·exact p4 j q2
   ·exact p5 j (fun e=>hid (by rw [← e]; exact hidm j q1)) q2 q3
 ·by_cases hid:id∈m
  ·rw [(e1 id hid).1] at h1
   rw [n1 id hid] at h2
   obtain ⟨⟨p1,p2,p3⟩,p4,p5⟩:=hR.inn id b h1 h2
   rw [eavv] at p3
   refine ⟨⟨p1,hlow b p2,fun q=>p3 (.inl q)⟩,fun id' hb=>?_,fun id' hne hn hi=>?_⟩
   ·by_cases hid':id'∈m
    ·rw [(e1 id' hid').2.1] at hb; exact p4 id' hb
    ·rw [(e2 id' hid').2.1] at hb; exact p3 (.inr (.inl ⟨id',fun q=>hid' (hidm id' q),hb⟩))
   ·by_cases hid':id'∈m
    ·rw [(e1 id' hid').1] at hn; rw [n1 id' hid'] at hi; exact p5 id' hne hn hi
    ·rw [(e2 id' hid').1] at hn; rw [n2 id' hid'] at hi; exact p3 (.inr (.inr ⟨id',fun q=>hid' (hidm id' q),hn,hi⟩))
  ·rw [(e2 id hid).1] at h1
   rw [n2 id hid] at h2
   obtain ⟨⟨p1,p2,p3⟩,p4,p5⟩:=h.inn id b h1 h2
   refine ⟨⟨Nat.lt_of_lt_of_le p1 hgo.kp.size,p2,p3⟩,fun id' hb=>?_,fun id' hne hn hi=>?_⟩
   ·by_cases hid':id'∈m
    ·rw [(e1 id' hid').2.1] at hb
     have:=(hR.lt id' b hb).2.2
     rw [eavv] at this
     exact this (.inr (.inr ⟨id,fun q=>hid (hidm id q),h1,h2⟩))
    ·rw [(e2 id' hid').2.1] at hb; exact p4 id' hb
   ·by_cases hid':id'∈m
    ·rw [(e1 id' hid').1] at hn
     rw [n1 id' hid'] at hi
     have:=(hR.inn id' b hn hi).1.2.2
     rw [eavv] at this
     exact this (.inr (.inr ⟨id,fun q=>hid (hidm id q),h1,h2⟩))
    ·rw [(e2 id' hid').1] at hn; rw [n2 id' hid'] at hi; exact p5 id' hne hn hi
theorem A4t {o:Oper} {m:List Nat} (h:Xd o s m=true):(∀ i∈m,∀ id∈Adl (s.res i),id∈m)∧(Rf o=false→∀ i∈m,∀ id∈Aus (s.res i),id∈m):=by
 simp only [Xd,Bool.and_eq_true,Bool.or_eq_true] at h
 refine ⟨A8p h.1,fun hl i hi id hid=>?_⟩
 rcases h.2 with q | q
 ·rw [hl] at q; cases q
 ·exact Asa.1 q id (Azn hi hid)
theorem Azp {o:Oper} (hm:A3a o=false):∀ i∈Ez o,∀ id∈Re (s.cell i),id∈X5 s o:=fun i hi id hid=>by
 unfold X5
 rw [hm]
 simp only [Bool.false_eq_true,if_false]
 split
 ·exact Auu i hi id hid
 ·exact List.mem_append_left _ (Auu i hi id hid)
section
variable {s t:St}
theorem Aon {x:Operand} (h:∀ i∈Om [x],s.cell i=t.cell i):s.op x=t.op x:=by
 cases x with
 | tmp i=>exact h i (by simp [Om])
 | const v=>rfl
 | global _=>rfl
 | func _=>rfl
theorem A4u {x:Operand} (h:s.op x=t.op x):s.leaf x=t.leaf x:=by unfold St.leaf; rw [h]
theorem Asb {x:Operand} (h:s.op x=t.op x):s.conc x=t.conc x:=by unfold St.conc; rw [h]
theorem A8q {x:Operand} {id:Nat} (h:s.leaf x=some (.row id)):∃ i∈Om [x],id∈Re (s.cell i):=by
 cases x with
 | tmp i=>
  refine ⟨i,by simp [Om],?_⟩
  unfold St.leaf at h
  simp only [St.op] at h
  split at h
  ·rename_i l hl
   cases h
   rw [hl]
   simp [Re,Azm,Vl.ls,Adk,Al4]
  ·cases h
 | const v=>
  unfold St.leaf at h
  simp only [St.op] at h
  split at h
  ·rename_i l hl
   cases h
   unfold Ax2 at hl
   split at hl
   ·split at hl<;>cases hl
   ·cases hl
   ·cases hl
  ·cases h
 | global _=>cases h
 | func _=>cases h
theorem Aoo {x:Operand} (h:s.leaf x=t.leaf x) (hr:∀ id,s.leaf x=some (.row id)→s.res id=t.res id):Ajd s x=Ajd t x:=by
 unfold Ajd
 rw [← h]
 split
 ·rename_i id hl
  rw [hr id hl]
 ·rfl
theorem Bc6 {x:Operand} (h:s.leaf x=t.leaf x) (hr:∀ id,s.leaf x=some (.row id)→s.res id=t.res id):(s.leaf x).bind s.sl=(t.leaf x).bind t.sl:=by
 rw [← h]
 cases hl:s.leaf x with
 | none=>rfl
 | some l=>
  cases l with
  | row id=>simp only [Option.bind_some,St.sl]; rw [hr id hl]
  | _=>rfl
theorem A3b {T:TypeId} {x y:Operand} (h:s.leaf x=t.leaf x) (hr:∀ id,s.leaf x=some (.row id)→s.res id=t.res id) (hy:s.conc y=t.conc y):Aat P s T x y=Aat P t T x y:=by
 unfold Aat
 rw [← h,← hy]
 split
 ·split
  ·rename_i id _ _ _ hl _
   rw [hr _ hl]
  ·rfl
 ·rfl
theorem A8r {T:TypeId} {x:Operand} (h:s.leaf x=t.leaf x) (hr:∀ id,s.leaf x=some (.row id)→s.res id=t.res id):Ar0 P s T x=Ar0 P t T x:=by
 unfold Ar0
 rw [← h]
 split
 ·split
  ·rename_i id hl
   rw [hr _ hl]
  ·rfl
 ·rfl
end
theorem Aop {s t:St} {T:TypeId} {x y:Operand} (h:s.leaf x=t.leaf x) (hr:∀ id,s.leaf x=some (.row id)→s.res id=t.res id) (hy:s.conc y=t.conc y):Ol P s T x y=Ol P t T x y:=by
 unfold Ol
 rw [Bc6 h hr,hy]
theorem Bbo {s t:St} {T:TypeId} {x:Operand} (h:s.leaf x=t.leaf x) (hr:∀ id,s.leaf x=some (.row id)→s.res id=t.res id) (hy:s.conc x=t.conc x):A4g P s T x=A4g P t T x:=by
 unfold A4g
 rw [Bc6 h hr,hy]
theorem A8s {s t:St} {X:Option (List Bool×Lf)} {av:AV} {v':St} (e:Nl (lfC t X)=some (av,v')):v'=t∧Nl (lfC s X)=some (av,s):=by
 cases X with
 | none=>cases e
 | some p=>
  simp only [lfC,Nl] at e ⊢
  split at e<;>cases e
  rename_i hq
  exact ⟨rfl,by rw [if_pos hq]⟩
theorem Ayh {s t:St} {X:Option Value} {av:AV} {v':St} (e:Nl (v0 t X)=some (av,v')):v'=t∧Nl (v0 s X)=some (av,s):=by
 cases X with
 | none=>cases e
 | some p=>
  simp only [v0,Nl] at e ⊢
  split at e<;>cases e
  rename_i hq
  exact ⟨rfl,by rw [if_pos hq]⟩
theorem Aoq {s t:St}:∀ {l:List Operand},(∀ y∈l,s.conc y=t.conc y)→Ac9 s l=Ac9 t l
 | [],_=>rfl
 | y::r,h=>by
  simp only [Ac9]
  rw [h y (by simp),Aoq (fun z hz=>h z (by simp [hz]))]
theorem A3c {s t:St} {T:TypeId} {x:Operand} (h:s.leaf x=t.leaf x) (hr:∀ id,s.leaf x=some (.row id)→s.res id=t.res id):Aaw P s T x=Aaw P t T x:=by
 unfold Aaw
 rw [← h]
 split
 ·rename_i hl
  rw [hr _ hl]
 ·rfl
theorem Bbp {sigs:Tb} {nid:Nat} {o:Oper} {t v':St} {av:AV} (hl:Rf o=true) (hc:∀ i∈Ez o,t.cell i=s.cell i) (hr:A3a o=false→∀ i∈Ez o,∀ id∈Re (t.cell i),t.res id=s.res id)
  (e:X3 P sigs t nid o=some (av,v')):v'=t∧X3 P sigs s nid o=some (av,s):=by
 obtain ⟨dst,op,type,pos,after,guard⟩:=o
 cases op<;>simp only [Rf] at hl<;>first | (cases hl; done) | skip
 case move x=>
  have hx:t.op x=s.op x:=Aon (fun i hi=>hc i (by simpa [Ez,Op.operands] using hi))
  simp only [Bool.not_eq_true'] at hl
  have hN:∀ t:St,X0 sigs.nest P t nid ⟨dst,.move x,type,pos,after,guard⟩=S6 P t nid ⟨dst,.move x,type,pos,after,guard⟩:=fun t=>Qs fun _=>rfl
  simp only [X3,Rc,Aoj,hN] at e ⊢
  simp only [S6,Agg,hl,avS,Nl,Vn] at e ⊢
  cases e
  exact ⟨rfl,by rw [hx]; rfl⟩
 case assign x=>
  have hx:t.op x=s.op x:=Aon (fun i hi=>hc i (by simpa [Ez,Op.operands] using hi))
  simp only [Bool.not_eq_true'] at hl
  have hN:∀ t:St,X0 sigs.nest P t nid ⟨dst,.assign x,type,pos,after,guard⟩=S6 P t nid ⟨dst,.assign x,type,pos,after,guard⟩:=fun t=>Qs fun _=>rfl
  simp only [X3,Rc,Aoj,hN] at e ⊢
  simp only [S6,Agg,hl,avS,Nl,Vn] at e ⊢
  cases e
  exact ⟨rfl,by rw [hx]; rfl⟩
 case indexAddr T x y=>
  have hs1:Om [x] ⊆ Ez ⟨dst,.indexAddr T x y,type,pos,after,guard⟩:=fun i hi=>by
   cases x<;>simp [Om,Ez,Op.operands] at hi ⊢
   exact .inl hi
  have hs2:Om [y] ⊆ Ez ⟨dst,.indexAddr T x y,type,pos,after,guard⟩:=fun i hi=>by
   cases x<;>cases y<;>simp [Om,Ez,Op.operands] at hi ⊢<;>first | exact hi | exact .inr hi
  have hx:=A4u (Aon (s:=t) (t:=s) (x:=x) (fun i hi=>hc i (hs1 hi)))
  have hy:=Asb (Aon (s:=t) (t:=s) (x:=y) (fun i hi=>hc i (hs2 hi)))
  have hrr:∀ id,t.leaf x=some (.row id)→t.res id=s.res id:=fun id hid=>by
   obtain ⟨i,h1,h2⟩:=A8q hid
   exact hr rfl i (hs1 h1) id h2
  have hN:∀ t:St,X0 sigs.nest P t nid ⟨dst,.indexAddr T x y,type,pos,after,guard⟩=S6 P t nid ⟨dst,.indexAddr T x y,type,pos,after,guard⟩:=fun t=>Qs fun _=>rfl
  simp only [X3,Rc,Aoj,hN] at e ⊢
  simp only [S6] at e ⊢
  rw [Aoo hx hrr,A3b hx hrr hy,Aop hx hrr hy] at e
  split at e
  ·rename_i hq
   rw [if_pos hq]
   exact A8s e
  ·rename_i hq
   rw [if_neg hq]
   exact A8s e
 case call c=>
  obtain ⟨callee,args,argTypes⟩:=c
  have hcal:callee=.builtin .len:=by
   split at hl
   ·rename_i hq; exact hq
   ·cases hl
  subst hcal
  have hN:∀ t:St,X0 sigs.nest P t nid ⟨dst,.call ⟨.builtin .len,args,argTypes⟩,type,pos,after,guard⟩=S6 P t nid ⟨dst,.call ⟨.builtin .len,args,argTypes⟩,type,pos,after,guard⟩:=fun t=>Qs fun _=>rfl
  simp only [X3,Rc,Aoj,hN] at e ⊢
  simp only [S6] at e ⊢
  split at e
  ·rename_i x T ha ht
   have ha':args=#[x]:=by apply Array.toList_inj.1; simpa using ha
   subst ha'
   have hs1:Om [x] ⊆ Ez ⟨dst,.call ⟨.builtin .len,#[x],argTypes⟩,type,pos,after,guard⟩:=fun i hi=>by
    cases x<;>simp [Om,Ez,Op.operands,Call.operands] at hi ⊢
    exact hi
   have hop:=Aon (s:=t) (t:=s) (x:=x) (fun i hi=>hc i (hs1 hi))
   have hx:=A4u hop
   have hrr:∀ id,t.leaf x=some (.row id)→t.res id=s.res id:=fun id hid=>by
    obtain ⟨i,h1,h2⟩:=A8q hid
    exact hr rfl i (hs1 h1) id h2
   have hcc:Pz P t ⟨dst,.call ⟨.builtin .len,#[x],argTypes⟩,type,pos,after,guard⟩=Pz P s ⟨dst,.call ⟨.builtin .len,#[x],argTypes⟩,type,pos,after,guard⟩:=by
    have hcx:=Asb hop
    unfold Pz
    have e1:∀ y∈(Op.call ⟨.builtin .len,#[x],argTypes⟩).operands.toList,t.conc y=s.conc y:=fun y hy=>by
     simp [Op.operands,Call.operands] at hy
     rw [hy]; exact hcx
    rw [Aoq e1]
    split
    ·have:execOp (fun x=>(t.conc x).getD undef) ⟨dst,.call ⟨.builtin .len,#[x],argTypes⟩,type,pos,after,guard⟩=execOp (fun x=>(s.conc x).getD undef) ⟨dst,.call ⟨.builtin .len,#[x],argTypes⟩,type,pos,after,guard⟩:=
      execOp_congr _ (fun cs b q=>by cases q) (fun y hy=>by show (t.conc y).getD undef=(s.conc y).getD undef; rw [e1 y (Array.mem_toList_iff.2 hy)])
     rw [this]
    ·rfl
   split at e
   ·rename_i hsl
    rw [if_pos hsl]
    rw [Aoo hx hrr,A8r hx hrr,Bbo hx hrr (Asb hop)] at e
    split at e
    ·rename_i hq
     rw [if_pos hq]
     exact Ayh e
    ·rename_i hq
     rw [if_neg hq]
     exact Ayh e
   ·rename_i hsl
    rw [if_neg hsl]
    rw [hcc,A3c hx hrr] at e
    split at e
    ·rename_i hq
     rw [if_pos hq]
     exact Ayh e
    ·rename_i hq
     rw [if_neg hq]
     exact Ayh e
  ·cases e
theorem Bgl {sigs:Tb} (hs:Ax P sigs) (h:Bp n B Iq s g a w) {nid:Nat} {o:Oper} {av:AV} {v':St} (e:Akt P sigs s nid o=some (av,v')):
  O1 P n B Iq s g a w o av (if Rf o then s else s.lay v' (X5 s o++Q5 nid)):=by
 unfold Akt at e
 dsimp only at e
 split at e
 ·rename_i hfr
  split at e
  ·rename_i hcl
   obtain ⟨p,e1,e⟩:=A6 e
   split at e
   ·rename_i h1
    split at e<;>cases e
    rename_i h2
    cases hlt:Rf o with
    | true=>
     refine Agk hs.dr h (Bbp (t:=s.view (Ez o) (X5 s o)) hlt (fun i hi=>?_) (fun hm i hi id hid=>?_) e1).2
     ·simp [St.view,Df.2 hi]
     ·have:(s.view (Ez o) (X5 s o)).cell i=s.cell i:=by simp [St.view,Df.2 hi]
      rw [this] at hid
      simp [St.view,Df.2 (Azp hm i hi id hid)]
    | false=>
     have c1:=A4t hcl
     have c2:=A4t h2
     have hmv:A3a o=false:=by
      cases hq:A3a o with
      | false=>rfl
      | true=>rw [Bgi hq] at hlt; cases hlt
     rw [hmv,Bool.false_or] at h1
     have hV:=Bgk h (sl:=Ez o) (ids:=X5 s o) (Azp hmv) c1.1 (c1.2 hlt)
     intro K Q hK
     refine Agk hs.dr hV e1 K Q fun v gv' w' k1 k2 k3=>?_
     obtain ⟨g',q1,q2,q3⟩:=Bkb h (Al6 hfr) k1 k2 (Asa.1 h1) c2.1 (c2.2 hlt)
     exact hK v g' w' q1 q2 (q3 v k3)
   ·cases e
  ·cases e
 ·cases e
end
end
section
def Bbq (s:St) (ops:Array Oper) (j:Nat):Option (Option Bool):=match ops[j]? with
 | some o=>match o.dst with
  | some d=>match s.cell d with
   | .vl (.lf (.c (.bool b)))=>some (some b)
   | .tp []=>some none
   | _=>none
  | none=>none
 | none=>none
def On (s:St) (ops:Array Oper) (o:Oper):Option Bool:=match o.guard with
 | none=>some true
 | some (j,want)=>match Bbq s ops j with
  | some (some b)=>some (bif b then want else !want)
  | some none=>some false
  | none=>none
def Av3 (P:Program) (o:Oper):Bool:=match o.op with
 | .move x=>!Aup x
 | .assign x=>!Aup x
 | .pick _ _ _=>true
 | .build _ _=>true
 | .load _ _=>true
 | .nilCheck _=>true
 | .binOp _ _ _ _ _=>true
 | .unOp _ _ _=>true
 | .convert _ U _=>!A4q P U
 | .slice T _ _ _ _=>Bgb P T
 | .fieldAddr _ _ _=>true
 | .field _ _ _=>true
 | .indexAddr _ _ _=>true
 | .index _ _ _=>true
 | .extract _ _=>true
 | .call c=>match c.callee with
  | .builtin .len=>true
  | .builtin .min=>true
  | .builtin .max=>true
  | _=>false
 | _=>false
section
variable {P:Program} {n B:Nat} {Iq:List Nat} {s:St} {g:Gh} {a:Act} {w:World}
theorem Bc7 {nid:Nat} {o:Oper} {av:AV} {s':St} (hro:Av3 P o=true) (e:Nl (S6 P s nid o)=some (av,s')):s'=s:=by
 obtain ⟨dst,op,type,pos,after,guard⟩:=o
 have v0':∀ {x:Option Value},Nl (v0 s x)=some (av,s')→s'=s:=fun e=>by obtain ⟨_,_,q⟩:=Adi e; cases q; rfl
 have vC':∀ {x:Option (List Bool×Value)},Nl (vC s x)=some (av,s')→s'=s:=fun e=>by obtain ⟨_,_,q⟩:=Al3 e; cases q; rfl
 have vl':∀ {x:Option Vl},Nl (vl0 s x)=some (av,s')→s'=s:=fun e=>by obtain ⟨_,_,q⟩:=Ayd e; cases q; rfl
 have av':∀ {x:Option AV},Nl (av0 s x)=some (av,s')→s'=s:=fun e=>by obtain ⟨_,_,q⟩:=g5 e; cases q; rfl
 have lf':∀ {x:Option (List Bool×Lf)},Nl (lfC s x)=some (av,s')→s'=s:=fun e=>by obtain ⟨_,_,q⟩:=Ayc e; cases q; rfl
 cases op<;>simp only [S6,Av3] at e hro<;>first | (cases hro; done) | skip
 case move x=>
  have:=Aye e
  unfold Agg at this
  split at this
  ·rename_i h; rw [h] at hro; cases hro
  ·cases this; rfl
 case assign x=>
  have:=Aye e
  unfold Agg at this
  split at this
  ·rename_i h; rw [h] at hro; cases hro
  ·cases this; rfl
 case pick=>exact av' e
 case build=>exact vl' e
 case load=>
  split at e
  ·exact lf' e
  ·exact vl' e
 case nilCheck=>exact av' e
 case binOp op T x y U=>
  split at e
  ·split at e
   ·exact vC' e
   ·exact v0' e
  ·exact vC' e
  ·exact vC' e
  ·exact vC' e
  ·split at e<;>exact v0' e
  ·split at e<;>exact v0' e
  ·exact v0' e
 case unOp=>exact v0' e
 case convert T U x=>
  split at e
  ·exact v0' e
  ·split at e
   ·rename_i q
    rw [q] at hro
    cases hro
   ·exact v0' e
 case slice=>
  rw [if_pos hro] at e
  exact vC' e
 case fieldAddr=>
  obtain ⟨l,s1,e1,e2⟩:=Ra e
  cases e2
  obtain ⟨l',e3,e4⟩:=Option.map_eq_some_iff.1 e1
  cases e4
  rfl
 case field=>exact vl' e
 case indexAddr=>split at e<;>exact lf' e
 case index=>exact vC' e
 case extract=>exact av' e
 case call c=>
  obtain ⟨callee,args,argTypes⟩:=c
  simp only at e hro
  split at hro
  ·simp only at e
   split at e
   ·split at e
    ·split at e<;>exact v0' e
    ·split at e<;>exact v0' e
   ·cases e
  ·exact v0' e
  ·exact v0' e
  ·cases hro
theorem Bgm {m:Nm} {nid:Nat} {o:Oper} {av:AV} {s':St} (hro:Av3 P o=true) (e:Nl (X0 m.less P s nid o)=some (av,s')):s'=s:=by
 have key:∀ {r:List Bool×AV×St},Aks false P s nid o=some r→Nl (some r)=some (av,s')→s'=s:=fun {r} h1 h2=>by
  obtain ⟨dst,op,type,pos,after,guard⟩:=o
  have h2:Nl (Aks false P s nid ⟨dst,op,type,pos,after,guard⟩)=some (av,s'):=by rw [h1]; exact h2
  cases op<;>simp only [Aks,Av3] at h2 hro<;>first | (cases hro; done) | (cases h2; done) | skip
  case fieldAddr=>
   obtain ⟨l,s1,e1,e2⟩:=Ra h2
   cases e2
   obtain ⟨l',e3,e4⟩:=Option.map_eq_some_iff.1 e1
   cases e4
   rfl
  case nilCheck=>
   obtain ⟨_,_,q⟩:=g5 h2
   cases q
   rfl
  case call c=>
   obtain ⟨callee,args,argTypes⟩:=c
   simp only at h2 hro
   split at h2
   ·cases hro
   ·cases h2
 have key2:Nl (X0 .some P s nid o)=some (av,s')→s'=s:=fun e=>by
  unfold X0 at e
  simp only at e
  split at e
  ·rename_i r hr
   exact key hr e
  ·exact Bc7 hro e
 cases m with
 | off=>exact Bc7 hro e
 | some=>exact key2 e
 | all=>exact key2 e
theorem Bil {o:Oper} (hro:Av3 P o=true):Rc o=none:=by
 unfold Rc
 unfold Av3 at hro
 split
 ·rename_i c hop
  rw [hop] at hro
  simp only at hro
  split
  ·rename_i f hf
   rw [hf] at hro
   cases hro
  ·rfl
 ·rfl
theorem Bkc {o:Oper} (hro:Av3 P o=true):Aoj s o=none:=by
 unfold Aoj
 unfold Av3 at hro
 split
 ·rename_i c hop
  rw [hop] at hro
  simp only at hro
  split
  ·rename_i t hf
   rw [hf] at hro
   cases hro
  ·rfl
 ·rfl
theorem Bgn (h:Bp n B Iq s g a w) {ops:Array Oper} {j:Nat} {r:Option Bool} (e:Bbq s ops j=some r):yielded ops a.tmps j=r:=by
 unfold Bbq at e
 unfold yielded
 split at e
 ·rename_i o ho
  split at e
  ·rename_i d hd
   have k:=h.cell d
   rw [ho]
   simp only [Option.bind_some,hd]
   split at e
   ·rename_i b hb
    cases e
    rw [hb] at k
    have k1:a.tmps.getD d undef=.bool b:=k.1
    rw [Array.getD_eq_getD_getElem?] at k1
    cases hq:a.tmps[d]? with
    | none=>rw [hq] at k1; simp [undef] at k1
    | some v=>rw [hq] at k1; simp at k1; rw [k1]
   ·rename_i hb
    cases e
    rw [hb] at k
    obtain ⟨us,hu,hsz,_⟩:=k
    have:us=#[]:=by apply Array.eq_empty_of_size_eq_zero; simpa using hsz
    subst this
    rw [Array.getD_eq_getD_getElem?] at hu
    cases hq:a.tmps[d]? with
    | none=>rfl
    | some v=>rw [hq] at hu; simp at hu; rw [hu]
   ·cases e
  ·cases e
 ·cases e
theorem Qt (h:Bp n B Iq s g a w) {ops:Array Oper} {o:Oper} {r:Bool} (e:On s ops o=some r):Region.wanted o (yielded ops a.tmps)=r:=by
 unfold On at e
 unfold Region.wanted
 split at e
 ·rename_i hg
  rw [hg]
  cases e
  rfl
 ·rename_i j want hg
  rw [hg]
  simp only
  split at e
  ·rename_i b hb
   rw [Bgn h hb]
   cases e
   cases b<;>cases want<;>rfl
  ·rename_i hb
   rw [Bgn h hb]
   cases e
   rfl
  ·cases e
end
end
section
structure Uv where
 o:Oper
 nid:Nat
 run:Bool
 ids:List Nat
 av:AV
 res:Nat→Jw
 wr:List Nat
def Uv.quiet (P:Program) (e:Uv):Bool:=!e.run || Av3 P e.o
def Uv.app (P:Program) (n:Nat) (e:Uv) (s:St):St:=St.put n (if e.quiet P then s else ⟨s.cell,fun id=>if Mn e.wr id then e.res id else s.res id⟩) e.o.dst e.av
def A8t (ops:Array Oper) (o:Oper):List Nat:=match o.guard with
 | some (j,_)=>match ops[j]? with
  | some oj=>match oj.dst with
   | some d=>[d]
   | none=>[]
  | none=>[]
 | none=>[]
def Uv.looks (ops:Array Oper) (e:Uv):List Nat:=(if e.run then Ez e.o else [])++A8t ops e.o
def Bgo:List Md→Bool
 | []=>true
 | .rd _::r=>Bgo r
 | _=>false
def wrO (T:Tb) (v:St) (nid:Nat) (o:Oper) (m:List Nat):List Nat:=match o.op with
 | .store _ x _=>(match v.leaf x with
  | some (.ptr id _)=>if Mn m id then [id] else m
  | _=>m)
 | .call _=>(match Rc o with
  | some (f,_)=>(match T.sd f with
   | some sd=>if Bgo sd.sg.ps&&(I8 sd.sg.rs&&(O0 sd.sg.ps&&Nat.ble (Is sd.sg.rs) 6)) then Q5 nid else m
   | none=>m)
  | none=>m)
 | _=>m
def Agm (T:Tb) (s:St) (nid:Nat) (o:Oper) (av:AV) (v:St):Uv:=⟨o,nid,true,X5 s o++Q5 nid,av,v.res,wrO T (s.view (Ez o) (X5 s o)) nid o (X5 s o++Q5 nid)⟩
def Aor (nid:Nat) (o:Oper):Uv:=⟨o,nid,false,[],.tp [],fun _=>.unborn,[]⟩
def Beo (P:Program) (sigs:Tb) (ops:Array Oper) (s:St) (e:Uv):Prop:=
 (On s ops e.o=some true∧∃ av v,Akt P sigs s e.nid e.o=some (av,v)∧e=Agm sigs s e.nid e.o av v)∨(On s ops e.o=some false∧e=Aor e.nid e.o)
def Al7 (P:Program) (sigs:Tb) (ops:Array Oper) (n:Nat):List Uv→St→Prop
 | [],_=>True
 | e::r,s=>Beo P sigs ops s e∧Al7 P sigs ops n r (e.app P n s)
def mix (P:Program) (n:Nat) (D:Nat→Bool):Nat→List Uv→St→St
 | _,[],s=>s
 | i,e::r,s=>mix P n D (i + 1) r (if D i then e.app P n s else s)
def A6k (o:Oper) (l:List Nat):Bool:=match o.dst with
 | some d=>Mn l d
 | none=>false
def Bc8 (o o':Oper):Bool:=match o.dst,o'.dst with
 | some d,some d'=>Nat.beq d d'
 | _,_=>false
def Azq (l m:List Nat):Bool:=match l with
 | []=>false
 | i::r=>Mn m i || Azq r m
def Rg (P:Program) (ops:Array Oper) (e f:Uv):Bool:=
 !A6k e.o (f.looks ops)&&!A6k f.o (e.looks ops)&&!Bc8 e.o f.o&&((e.quiet P || !Azq e.wr f.ids)&&(f.quiet P || !Azq f.wr e.ids)&&(e.quiet P || f.quiet P || !Azq e.wr f.wr))
def g7 (o:Oper):List Nat:=(o.after.toList.filter fun e=>Region.binds .any e).map (·.on)
def Auv (ancs:List Nat):List Nat→Nat
 | []=>0
 | p::r=>((1 <<< p) ||| (ancs.getD p 0)) ||| Auv ancs r
def Azr (P:Program) (ops:Array Oper) (A:Nat) (e:Uv):Nat→List Uv→Bool
 | _,[]=>true
 | k,d::r=>(A.testBit k || Rg P ops d e)&&Azr P ops A e (k + 1) r
def A8u (i:Nat):List Nat→Bool
 | []=>true
 | p::r=>Nat.blt p i&&A8u i r
def Bep (P:Program) (ops:Array Oper):Nat→List Uv→List Nat→List Uv→Bool
 | _,_,_,[]=>true
 | i,done,ancs,e::r=>A8u i (g7 e.o)&&(Azr P ops (Auv ancs (g7 e.o)) e 0 done&&Bep P ops (i + 1) (done++[e]) (ancs++[Auv ancs (g7 e.o)]) r)
section
variable {P:Program} {n B:Nat} {Iq:List Nat} {sigs:Tb} {ops:Array Oper}
theorem Asc {l m:List Nat}:Azq l m=false↔∀ i∈l,i ∉ m:=by
 induction l with
 | nil=>simp [Azq]
 | cons j r ih=>
  simp only [Azq,Bool.or_eq_false_iff,ih,List.forall_mem_cons]
  constructor
  ·rintro ⟨h1,h2⟩
   exact ⟨fun q=>(by rw [Df.2 q] at h1; cases h1),h2⟩
  ·rintro ⟨h1,h2⟩
   refine ⟨?_,h2⟩
   cases hq:Mn m j
   ·rfl
   ·exact absurd (Df.1 hq) h1
theorem A4v {i:Nat} {l:List Nat}:A8u i l=true↔∀ p∈l,p < i:=by
 induction l with
 | nil=>simp [A8u]
 | cons j r ih=>simp [A8u,ih,Nat.blt_eq]
def A4w (P:Program) (ops:Array Oper) (e' e:Uv):Prop:=(∀ d,e'.o.dst=some d→d ∉ e.looks ops)∧(e'.quiet P=false→∀ id∈e'.wr,id ∉ e.ids)
theorem Aos {o:Oper} {l:List Nat} (h:A6k o l=false):∀ d,o.dst=some d→d ∉ l:=by
 intro d hd q
 unfold A6k at h
 rw [hd] at h
 simp only at h
 rw [Df.2 q] at h
 cases h
theorem Aot {e f:Uv} (h:Rg P ops e f=true):A4w P ops e f∧A4w P ops f e:=by
 simp only [Rg,Bool.and_eq_true,Bool.not_eq_true',Bool.or_eq_true] at h
 obtain ⟨⟨⟨h1,h2⟩,h3⟩,⟨h4,h5⟩,_⟩:=h
 refine ⟨⟨Aos h1,fun q id hid=>?_⟩,⟨Aos h2,fun q id hid=>?_⟩⟩
 ·rcases h4 with h4 | h4
  ·rw [h4] at q; cases q
  ·exact Asc.1 h4 id hid
 ·rcases h5 with h5 | h5
  ·rw [h5] at q; cases q
  ·exact Asc.1 h5 id hid
theorem Bgp (s:St) (d:Option Tmp) (av:AV) (x:Nat):(s.put n d av).cell x=if (d=some x∧Nat.blt x n=true) then av else s.cell x:=by
 cases d with
 | none=>simp [St.put]
 | some d=>
  unfold St.put
  simp only
  by_cases q:x=d
  ·subst q
   by_cases hn:Nat.blt x n=true
   ·simp [hn,St.setCell]
   ·simp [hn]
  ·have:¬ (some d=some x∧Nat.blt x n=true):=fun h=>q (Option.some.inj h.1).symm
   rw [if_neg this]
   split
   ·simp [St.setCell,As _ _ q]
   ·rfl
theorem X6 (e:Uv) (s:St) (x:Nat):(e.app P n s).cell x=if (e.o.dst=some x∧Nat.blt x n=true) then e.av else s.cell x:=by
 unfold Uv.app
 rw [Bgp]
 split
 ·rfl
 ·split<;>rfl
theorem Adn (e:Uv) (s:St) (id:Nat):(e.app P n s).res id=if e.quiet P=false∧id∈e.wr then e.res id else s.res id:=by
 unfold Uv.app
 rw [Ayf]
 by_cases q:e.quiet P=true
 ·simp [q]
 ·have q:e.quiet P=false:=by simpa using q
  simp only [q,Bool.false_eq_true,if_false,true_and]
  by_cases hm:id∈e.wr
  ·simp [hm,Df.2 hm]
  ·have:Mn e.wr id=false:=by
    cases hq:Mn e.wr id
    ·rfl
    ·exact absurd (Df.1 hq) hm
   simp [hm,this]
theorem St.ext' {s t:St} (h1:∀ i,s.cell i=t.cell i) (h2:∀ id,s.res id=t.res id):s=t:=by
 obtain ⟨c,r⟩:=s
 obtain ⟨c',r'⟩:=t
 congr
 ·exact funext h1
 ·exact funext h2
theorem Bgq {e f:Uv} (h:Rg P ops e f=true) (s:St):f.app P n (e.app P n s)=e.app P n (f.app P n s):=by
 have hd:∀ d,e.o.dst=some d→f.o.dst≠some d:=by
  intro d h1 h2
  simp only [Rg,Bool.and_eq_true,Bool.not_eq_true'] at h
  have:=h.1.2
  unfold Bc8 at this
  rw [h1,h2] at this
  simp at this
 have hr:∀ id,e.quiet P=false→id∈e.wr→¬ (f.quiet P=false∧id∈f.wr):=fun id q1 q2 q3=>by
  simp only [Rg,Bool.and_eq_true,Bool.not_eq_true',Bool.or_eq_true] at h
  rcases h.2.2 with (h4 | h4) | h4
  ·rw [h4] at q1; cases q1
  ·rw [h4] at q3; cases q3.1
  ·exact Asc.1 h4 id q2 q3.2
 refine St.ext' (fun i=>?_) (fun id=>?_)
 ·rw [X6,X6,X6,X6]
  by_cases h1:e.o.dst=some i∧Nat.blt i n=true
  ·have h2:¬ (f.o.dst=some i∧Nat.blt i n=true):=fun q=>hd i h1.1 q.1
   rw [if_neg h2,if_pos h1,if_pos h1]
  ·rw [if_neg h1,if_neg h1]
 ·rw [Adn,Adn,Adn,Adn]
  by_cases h1:e.quiet P=false∧id∈e.wr
  ·rw [if_neg (hr id h1.1 h1.2),if_pos h1,if_pos h1]
  ·rw [if_neg h1,if_neg h1]
def S7 (s t:St) (L I:List Nat):Prop:=(∀ x∈L,s.cell x=t.cell x)∧∀ id∈I,s.res id=t.res id
theorem S7.app {s t:St} {L I:List Nat} (h:S7 s t L I) (e:Uv):S7 (e.app P n s) (e.app P n t) L I:=by
 refine ⟨fun x hx=>?_,fun id hid=>?_⟩
 ·rw [X6,X6,h.1 x hx]
 ·rw [Adn,Adn,h.2 id hid]
theorem A4w.agree {e' e:Uv} (h:A4w P ops e' e) (s:St):S7 (e'.app P n s) s (e.looks ops) e.ids:=by
 refine ⟨fun x hx=>?_,fun id hid=>?_⟩
 ·rw [X6,if_neg (fun q=>h.1 x q.1 hx)]
 ·rw [Adn,if_neg (fun q=>h.2 q.1 id q.2 hid)]
theorem S7.trans {s t u:St} {L I:List Nat} (h:S7 s t L I) (k:S7 t u L I):S7 s u L I:=⟨fun x hx=>(h.1 x hx).trans (k.1 x hx),fun x hx=>(h.2 x hx).trans (k.2 x hx)⟩
theorem S7.symm {s t:St} {L I:List Nat} (h:S7 s t L I):S7 t s L I:=⟨fun x hx=>(h.1 x hx).symm,fun x hx=>(h.2 x hx).symm⟩
theorem Aee {s t:St}:∀ {sl:List Nat},(∀ x∈sl,s.cell x=t.cell x)→Ks s sl=Ks t sl
 | [],_=>rfl
 | i::r,h=>by
  simp only [Ks]
  rw [h i (by simp),Aee (fun x hx=>h x (by simp [hx]))]
theorem Un {s t:St}:∀ {l:List Nat},(∀ x∈l,s.res x=t.res x)→Mo s l=Mo t l
 | [],_=>rfl
 | i::r,h=>by
  simp only [Mo]
  rw [h i (by simp),Un (fun x hx=>h x (by simp [hx]))]
theorem Auw {s t:St} {sl:List Nat} (h1:∀ x∈sl,s.cell x=t.cell x) (h2:∀ id∈Aol s sl,s.res id=t.res id):Aol t sl=Aol s sl:=by
 unfold Aol at h2 ⊢
 dsimp only at h2 ⊢
 rw [← Aee h1]
 have e1:Mo t (Ks s sl)=Mo s (Ks s sl):=(Un (fun x hx=>h2 x (List.mem_append_left _ (List.mem_append_left _ hx)))).symm
 rw [e1]
 have e2:Mo t (Ks s sl++Mo s (Ks s sl))=Mo s (Ks s sl++Mo s (Ks s sl)):=(Un (fun x hx=>h2 x (List.mem_append_left _ hx))).symm
 rw [e2]
theorem Ado {s t:St}:∀ {l:List Nat},(∀ x∈l,s.res x=t.res x)→Al5 s l=Al5 t l
 | [],_=>rfl
 | i::r,h=>by
  simp only [Al5]
  rw [h i (by simp),Ado (fun x hx=>h x (by simp [hx]))]
theorem Azs {s t:St} {o:Oper} (h1:∀ x∈Ez o,s.cell x=t.cell x) (h2:∀ id∈X5 s o,s.res id=t.res id):X5 t o=X5 s o:=by
 unfold X5 at h2 ⊢
 by_cases hm:A3a o=true
 ·rw [if_pos hm,if_pos hm]
 rw [if_neg hm] at h2
 rw [if_neg hm,if_neg hm]
 split
 ·rename_i hq
  rw [if_pos hq] at h2
  exact Auw h1 h2
 ·rename_i hq
  rw [if_neg hq] at h2
  have h3:∀ id∈Aol s (Ez o),s.res id=t.res id:=fun id q=>h2 id (List.mem_append_left _ q)
  rw [Auw h1 h3,← Ado h3]
theorem A3d {s t:St} {o:Oper} {m:List Nat} (h:∀ id∈m,s.res id=t.res id):Xd o t m=Xd o s m:=by
 unfold Xd
 rw [Un h,Ado h]
theorem Aou {s t:St}:∀ {k nid:Nat},(∀ id,nid≤id→id < nid + k→s.res id=t.res id)→Tg t nid k=Tg s nid k
 | 0,_,_=>rfl
 | k + 1,nid,h=>by
  simp only [Tg]
  rw [h nid (Nat.le_refl _) (by omega),Aou (fun id q1 q2=>h id (by omega) (by omega))]
theorem Azt {s t:St} {sl ids:List Nat} (h1:∀ x∈sl,s.cell x=t.cell x) (h2:∀ id∈ids,s.res id=t.res id):t.view sl ids=s.view sl ids:=by
 refine St.ext' (fun i=>?_) (fun id=>?_)
 ·show (if Mn sl i then t.cell i else .dead)=(if Mn sl i then s.cell i else .dead)
  split
  ·rename_i q; rw [h1 i (Df.1 q)]
  ·rfl
 ·show (if Mn ids id then t.res id else .unborn)=(if Mn ids id then s.res id else .unborn)
  split
  ·rename_i q; rw [h2 id (Df.1 q)]
  ·rfl
theorem A8v {s t:St} {nid:Nat} {o:Oper} (h1:∀ x∈Ez o,s.cell x=t.cell x) (h2:∀ id∈X5 s o++Q5 nid,s.res id=t.res id):Akt P sigs t nid o=Akt P sigs s nid o:=by
 have h3:∀ id∈X5 s o,s.res id=t.res id:=fun id q=>h2 id (List.mem_append_left _ q)
 unfold Akt
 dsimp only
 rw [Azs h1 h3,Azt h1 h3,← A3d h3,Aou (s:=s) (t:=t) (fun id q1 q2=>h2 id (List.mem_append_right _ (by
  simp only [Q5,List.mem_cons,List.not_mem_nil,or_false,Av2] at q2 ⊢
  omega)))]
theorem Bbr {s t:St} {o:Oper} {j:Nat} {want:Bool} (hg:o.guard=some (j,want)) (h:∀ x∈A8t ops o,s.cell x=t.cell x):Bbq t ops j=Bbq s ops j:=by
 unfold A8t at h
 rw [hg] at h
 simp only at h
 unfold Bbq
 split
 ·rename_i oj hoj
  rw [hoj] at h
  simp only at h
  split
  ·rename_i d hd
   rw [hd] at h
   simp only [List.mem_cons,List.not_mem_nil,or_false,forall_eq] at h
   rw [h]
  ·rfl
 ·rfl
theorem Akv {s t:St} {o:Oper} (h:∀ x∈A8t ops o,s.cell x=t.cell x):On t ops o=On s ops o:=by
 unfold On
 split
 ·rfl
 ·rename_i j want hg
  rw [Bbr hg h]
theorem Beo.local {s t:St} {e:Uv} (h:Beo P sigs ops s e) (ha:S7 s t (e.looks ops) e.ids):Beo P sigs ops t e:=by
 have hg:∀ x∈A8t ops e.o,s.cell x=t.cell x:=fun x hx=>ha.1 x (List.mem_append_right _ hx)
 rcases h with ⟨h1,av,v,h2,h3⟩ | ⟨h1,h2⟩
 ·left
  have hrun:e.run=true:=by rw [h3]; rfl
  have hids:e.ids=X5 s e.o++Q5 e.nid:=by rw [h3]; rfl
  have c1:∀ x∈Ez e.o,s.cell x=t.cell x:=fun x hx=>ha.1 x (List.mem_append_left _ (by rw [hrun]; exact hx))
  have c2:∀ id∈X5 s e.o++Q5 e.nid,s.res id=t.res id:=fun id hid=>ha.2 id (by rw [hids]; exact hid)
  refine ⟨by rw [Akv hg]; exact h1,av,v,by rw [A8v c1 c2]; exact h2,?_⟩
  have:Agm sigs t e.nid e.o av v=Agm sigs s e.nid e.o av v:=by
   unfold Agm
   rw [Azs c1 (fun id hid=>c2 id (List.mem_append_left _ hid)),Azt c1 (fun id hid=>c2 id (List.mem_append_left _ hid))]
  rw [this]
  exact h3
 ·exact .inr ⟨by rw [Akv hg]; exact h1,h2⟩
theorem Azu {D:Nat→Bool} {e:Uv}:∀ {tr:List Uv} {k:Nat} {s:St},(∀ j f,tr[j]? = some f→D (k + j)=true→Rg P ops e f=true)→mix P n D k tr (e.app P n s)=e.app P n (mix P n D k tr s)
 | [],_,_,_=>rfl
 | f::r,k,s,h=>by
  simp only [mix]
  have h':∀ j f',r[j]? = some f'→D (k + 1 + j)=true→Rg P ops e f'=true:=fun j f' h1 h2=>h (j + 1) f' (by simpa using h1) (by rw [← h2]; congr 1; omega)
  split
  ·rename_i hD
   rw [Bgq (h 0 f rfl hD),Azu h']
  ·exact Azu h'
theorem Asd {D D':Nat→Bool}:∀ {tr:List Uv} {k:Nat} {s:St},(∀ j,j < tr.length→D (k + j)=D' (k + j))→mix P n D k tr s=mix P n D' k tr s
 | [],_,_,_=>rfl
 | f::r,k,s,h=>by
  simp only [mix]
  have h0:D k=D' k:=h 0 (by simp)
  rw [h0]
  exact Asd (fun j hj=>by have:=h (j + 1) (by simpa using hj); rw [show k + 1 + j=k + (j + 1) by omega]; exact this)
theorem Bc9 {D D':Nat→Bool} {e:Uv}:∀ {tr:List Uv} {k i:Nat} {s:St},tr[i]? = some e→D (k + i)=false→D' (k + i)=true→(∀ j,j≠i→D' (k + j)=D (k + j))→
  (∀ j f,i < j→tr[j]? = some f→D (k + j)=true→Rg P ops e f=true)→mix P n D' k tr s=e.app P n (mix P n D k tr s)
 | [],_,_,_,h,_,_,_,_=>by simp at h
 | f::r,k,0,s,h,h1,h2,h3,h4=>by
  simp at h
  subst h
  simp only [mix]
  have h1':D k=false:=h1
  have h2':D' k=true:=h2
  rw [h1',h2']
  simp only [if_true,Bool.false_eq_true,if_false]
  rw [Asd (D:=D') (D':=D) (fun j hj=>by have:=h3 (j + 1) (by omega); rw [show k + 1 + j=k + (j + 1) by omega]; exact this)]
  exact Azu (fun j f' q1 q2=>h4 (j + 1) f' (by omega) (by simpa using q1) (by rw [← q2]; congr 1; omega))
 | f::r,k,i + 1,s,h,h1,h2,h3,h4=>by
  simp only [mix]
  have h0:D' k=D k:=h3 0 (by omega)
  rw [h0]
  refine Bc9 (i:=i) (by simpa using h) (by rw [← h1]; congr 1; omega) (by rw [← h2]; congr 1; omega) (fun j hj=>?_) (fun j f' q1 q2 q3=>?_)
  ·have:=h3 (j + 1) (by omega)
   rw [show k + 1 + j=k + (j + 1) by omega]
   exact this
  ·exact h4 (j + 1) f' (by omega) (by simpa using q2) (by rw [← q3]; congr 1; omega)
theorem Ase {D:Nat→Bool} {e:Uv}:∀ {tr:List Uv} {k i:Nat} {s t:St},S7 s t (e.looks ops) e.ids→
  (∀ j f,tr[j]? = some f→j < i→D (k + j)=false→A4w P ops f e)→(∀ j f,tr[j]? = some f→i≤j→D (k + j)=true→A4w P ops f e)→
  S7 (mix P n D k tr s) (mix P n (fun _=>true) k (tr.take i) t) (e.looks ops) e.ids
 | [],k,i,s,t,h,_,_=>by simpa [mix] using h
 | f::r,k,0,s,t,h,h1,h2=>by
  simp only [mix,List.take_zero]
  have ih:∀ s',S7 s' t (e.looks ops) e.ids→S7 (mix P n D (k + 1) r s') t (e.looks ops) e.ids:=fun s' q=>by
   have:=Ase (D:=D) (tr:=r) (k:=k + 1) (i:=0) q (fun j f' q1 q2=>by omega) (fun j f' q1 _ q3=>h2 (j + 1) f' (by simpa using q1) (by omega) (by rw [← q3]; congr 1; omega))
   simpa [mix] using this
  split
  ·rename_i hD
   exact ih _ (((h2 0 f rfl (by omega) hD).agree s).trans h)
  ·exact ih _ h
 | f::r,k,i + 1,s,t,h,h1,h2=>by
  simp only [mix,List.take_succ_cons,if_true]
  have ih:∀ s' t',S7 s' t' (e.looks ops) e.ids→S7 (mix P n D (k + 1) r s') (mix P n (fun _=>true) (k + 1) (r.take i) t') (e.looks ops) e.ids:=fun s' t' q=>
   Ase (D:=D) q (fun j f' q1 q2 q3=>h1 (j + 1) f' (by simpa using q1) (by omega) (by rw [← q3]; congr 1; omega)) (fun j f' q1 q2 q3=>h2 (j + 1) f' (by simpa using q1) (by omega) (by rw [← q3]; congr 1; omega))
  split
  ·exact ih _ _ (h.app f)
  ·rename_i hD
   have hD:D k=false:=by simpa using hD
   exact ih _ _ (h.trans ((h1 0 f rfl (by omega) hD).agree t).symm)
theorem Al7.get:∀ {tr:List Uv} {k i:Nat} {s:St} {e:Uv},Al7 P sigs ops n tr s→tr[i]? = some e→Beo P sigs ops (mix P n (fun _=>true) k (tr.take i) s) e
 | [],_,_,_,_,_,h=>by simp at h
 | f::r,k,0,s,e,h,hi=>by
  simp at hi
  subst hi
  simpa [mix] using h.1
 | f::r,k,i + 1,s,e,h,hi=>by
  simp only [List.take_succ_cons,mix,if_true]
  exact Al7.get h.2 (by simpa using hi)
def Bgr (tr:List Uv) (D:Nat→Prop):Prop:=∀ k e,tr[k]? = some e→D k→∀ p∈g7 e.o,D p
def Bef (tr:List Uv) (i:Nat) (e:Uv):Prop:=∀ D,Bgr tr D→(∀ p∈g7 e.o,D p)→D i
theorem A4x {ancs:List Nat} {i:Nat}:∀ {ps:List Nat},(Auv ancs ps).testBit i=true→∃ p∈ps,p=i∨(ancs.getD p 0).testBit i=true
 | [],h=>by simp [Auv] at h
 | p::r,h=>by
  simp only [Auv,Nat.testBit_or,Bool.or_eq_true] at h
  rcases h with (h | h) | h
  ·refine ⟨p,by simp,.inl ?_⟩
   rw [Nat.one_shiftLeft,Nat.testBit_two_pow] at h
   simpa using h
  ·exact ⟨p,by simp,.inr h⟩
  ·obtain ⟨q,h1,h2⟩:=A4x h
   exact ⟨q,by simp [h1],h2⟩
theorem Azv {A:Nat} {e:Uv}:∀ {l:List Uv} {k:Nat},Azr P ops A e k l=true→∀ j f,l[j]? = some f→A.testBit (k + j)=true∨Rg P ops f e=true
 | [],_,_,j,f,hj=>by simp at hj
 | d::r,k,h,0,f,hj=>by
  simp at hj
  subst hj
  simp only [Azr,Bool.and_eq_true,Bool.or_eq_true] at h
  exact h.1
 | d::r,k,h,j + 1,f,hj=>by
  simp only [Azr,Bool.and_eq_true,Bool.or_eq_true] at h
  have:=Azv h.2 j f (by simpa using hj)
  rw [show k + (j + 1)=k + 1 + j by omega]
  exact this
theorem A8w {tr:List Uv}:∀ {rest done:List Uv} {ancs:List Nat},tr=done++rest→ancs.length=done.length→Bep P ops done.length done ancs rest=true→
  (∀ k e x,done[k]? = some e→(ancs.getD k 0).testBit x=true→Bef tr x e)→
  (∀ i j e f,tr[i]? = some e→tr[j]? = some f→i < j→j < done.length→Bef tr i f∨Rg P ops e f=true)→
  (∀ j f,tr[j]? = some f→j < done.length→∀ p∈g7 f.o,p < j)→
  (∀ i j e f,tr[i]? = some e→tr[j]? = some f→i < j→Bef tr i f∨Rg P ops e f=true)∧(∀ j f,tr[j]? = some f→∀ p∈g7 f.o,p < j)
 | [],done,ancs,h,_,_,_,h3,h4=>by
  subst h
  rw [List.append_nil]
  refine ⟨fun i j e f h1 h2 h5=>?_,fun j f h1=>?_⟩
  ·have:=h3 i j e f (by rw [List.append_nil]; exact h1) (by rw [List.append_nil]; exact h2) h5 (List.getElem?_eq_some_iff.1 h2).1
   rwa [List.append_nil] at this
  ·exact h4 j f (by rw [List.append_nil]; exact h1) (List.getElem?_eq_some_iff.1 h1).1
 | e::rest,done,ancs,h,hl,hok,h2,h3,h4=>by
  simp only [Bep,Bool.and_eq_true] at hok
  obtain ⟨k1,k2,k3⟩:=hok
  have hget:tr[done.length]? = some e:=by rw [h]; simp
  have hbef:∀ x,(Auv ancs (g7 e.o)).testBit x=true→Bef tr x e:=by
   intro x hx D hD hp
   obtain ⟨p,q1,q2⟩:=A4x hx
   rcases q2 with rfl | q2
   ·exact hp _ q1
   ·have hpl:p < done.length:=A4v.1 k1 p q1
    have hpe:done[p]? = some done[p]:=List.getElem?_eq_getElem hpl
    have hpt:tr[p]? = some done[p]:=by rw [h,List.getElem?_append_left hpl]; exact hpe
    exact h2 p _ x hpe q2 D hD (hD p _ hpt (hp p q1))
  have hlen:(done++[e]).length=done.length + 1:=by simp
  refine A8w (rest:=rest) (done:=done++[e]) (ancs:=ancs++[Auv ancs (g7 e.o)]) (by rw [h]; simp) (by simp [hl]) (by rw [hlen]; exact k3) ?_ ?_ ?_
  ·intro k f x hk hx
   by_cases q:k < done.length
   ·rw [List.getElem?_append_left q] at hk
    refine h2 k f x hk ?_
    rw [List.getD_eq_getElem?_getD,List.getElem?_append_left (by omega),← List.getD_eq_getElem?_getD] at hx
    exact hx
   ·have hkl:=(List.getElem?_eq_some_iff.1 hk).1
    have hke:k=done.length:=by simp at hkl; omega
    subst hke
    simp at hk
    subst hk
    rw [List.getD_eq_getElem?_getD,← hl] at hx
    simp at hx
    exact hbef x hx
  ·intro i j f f' q1 q2 q3 q4
   by_cases q:j < done.length
   ·exact h3 i j f f' q1 q2 q3 q
   ·have:j=done.length:=by simp at q4; omega
    subst this
    rw [hget] at q2
    cases q2
    have hi:done[i]? = some f:=by rw [h,List.getElem?_append_left q3] at q1; exact q1
    rcases Azv k2 i f hi with q5 | q5
    ·exact .inl (hbef i (by simpa using q5))
    ·exact .inr q5
  ·intro j f q1 q2
   by_cases q:j < done.length
   ·exact h4 j f q1 q
   ·have:j=done.length:=by simp at q2; omega
    subst this
    rw [hget] at q1
    cases q1
    exact A4v.1 k1
end
end
section
def unl (listed:Array Bool):Nat→Nat
 | 0=>0
 | k + 1=>unl listed k + (if listed.getD k false then 0 else 1)
theorem Lz (listed:Array Bool) (i j:Nat) (h:i < listed.size):(listed.setIfInBounds i true).getD j false=if j=i then true else listed.getD j false:=by
 by_cases q:j=i
 ·subst q
  simp [h]
 ·rw [getD_set_ne false (fun e=>q e.symm)]
  simp [q]
theorem Bda (listed:Array Bool) (i:Nat) (h:i < listed.size):∀ k,k≤i→unl (listed.setIfInBounds i true) k=unl listed k
 | 0,_=>rfl
 | k + 1,hk=>by
  simp only [unl]
  have hq:(listed.setIfInBounds i true).getD k false=listed.getD k false:=by rw [Lz listed i k h,if_neg (by omega)]
  rw [Bda listed i h k (by omega),hq]
theorem Bdb (listed:Array Bool) (i:Nat) (h:i < listed.size) (hf:listed.getD i false=false):∀ k,i < k→unl (listed.setIfInBounds i true) k + 1=unl listed k
 | 0,hk=>by omega
 | k + 1,hk=>by
  simp only [unl]
  by_cases q:k=i
  ·subst q
   have hq:(listed.setIfInBounds k true).getD k false=true:=by rw [Lz listed k k h,if_pos rfl]
   rw [Bda listed k h k (Nat.le_refl _),hq,hf]
   simp
  ·have hq:(listed.setIfInBounds i true).getD k false=listed.getD k false:=by rw [Lz listed i k h,if_neg q]
   rw [hq]
   have:=Bdb listed i h hf k (by omega)
   omega
theorem A8x (listed:Array Bool):∀ k,unl listed k=0→∀ j,j < k→listed.getD j false=true
 | 0,_,j,hj=>by omega
 | k + 1,h,j,hj=>by
  simp only [unl] at h
  by_cases q:j=k
  ·subst q
   by_cases hq:listed.getD j false=true
   ·exact hq
   ·rw [if_neg hq] at h; omega
  ·exact A8x listed k (by omega) j (by omega)
section
variable {P:Program} {n B:Nat} {Iq:List Nat} {sigs:Tb} {ops:Array Oper}
theorem Azw {listed:Array Bool} {j:Nat} (hj:j∈Region.ready .any ops listed):∃ o,ops[j]? = some o∧listed.getD j true=false∧∀ p∈g7 o,listed.getD p false=true:=by
 obtain ⟨h0,o,ho,h⟩:=mem_ready.1 hj
 refine ⟨o,ho,h0,fun p hp=>?_⟩
 simp only [g7,List.mem_map,List.mem_filter] at hp
 obtain ⟨e,⟨he,hb⟩,rfl⟩:=hp
 exact h e (Array.mem_toList_iff.1 he) hb
theorem Bbs {tr:List Uv} (htr:tr.map (·.o)=ops.toList) {listed:Array Bool} (hsz:listed.size=ops.size) (hp:∀ j f,tr[j]? = some f→∀ p∈g7 f.o,p < j) (hr:Region.ready .any ops listed=[]):
  ∀ j,j < ops.size→listed.getD j false=true:=by
 intro j
 induction j using Nat.strongRecOn with
 | _ j ih=>
  intro hj
  cases hq:listed.getD j false with
  | true=>rfl
  | false=>
   exfalso
   have hlen:tr.length=ops.size:=by rw [← Array.length_toList,← htr]; simp
   have hte:tr[j]? = some (tr[j]'(by omega)):=List.getElem?_eq_getElem (by omega)
   have ho:ops[j]? = some (tr[j]'(by omega)).o:=by
    rw [← Array.getElem?_toList,← htr,List.getElem?_map,hte]
    rfl
   have:j∈Region.ready .any ops listed:=by
    rw [mem_ready]
    refine ⟨?_,_,ho,fun e he hb=>?_⟩
    ·rw [← hq]
     simp [Array.getD,show j < listed.size by omega]
    ·have hmem:e.on∈g7 (tr[j]'(by omega)).o:=by
      simp only [g7,List.mem_map,List.mem_filter]
      exact ⟨e,⟨Array.mem_toList_iff.2 he,hb⟩,rfl⟩
     have:=hp j _ hte _ hmem
     exact ih e.on this (by omega)
   rw [hr] at this
   cases this
theorem Bgs {o:Oper} (h:Rf o=true):Av3 P o=true:=by
 obtain ⟨dst,op,type,pos,after,guard⟩:=o
 cases op<;>simp only [Rf] at h<;>simp only [Av3]<;>first | exact h | (cases h; done) | skip
 case call c=>
  split at h
  ·rename_i hq
   rw [hq]
  ·cases h
theorem A8y:∀ {ms:List Md} {y:BxD ms} {ow:List (Option Nat)} {res:Nat→Jw},Bgo ms=true→M2 ms y ow res=res
 | [],_,_,_,_=>rfl
 | .rd _::ms,y,ow,res,h=>A8y (ms:=ms) h
 | .own _ _::_,_,_,_,h=>by cases h
 | .bx _ _::_,_,_,_,h=>by cases h
 | .mu _ _::_,_,_,_,h=>by cases h
theorem Bim {v v':St} {nid:Nat} {o:Oper} {av:AV} {m:List Nat} (e:X3 P sigs v nid o=some (av,v')) {id:Nat} (hm:id∈m) (hw:id ∉ wrO sigs v nid o m):v'.res id=v.res id:=by
 obtain ⟨dst,op,type,pos,after,guard⟩:=o
 cases op<;>try exact absurd hm hw
 case store T x y=>
  unfold wrO at hw
  simp only at hw
  split at hw
  ·rename_i j off hl
   have hN:∀ tk,Aks tk P v nid ⟨dst,.store T x y,type,pos,after,guard⟩=none:=fun tk=>by
    have:Ajh P v T x y=none:=by unfold Ajh; rw [hl]
    show stC (Ajh P v T x y)=none
    rw [this]
    rfl
   have e2:Nl (if Aof v x then stC (Aog P v T x y) else stC (Agf P v T x y))=some (av,v'):=by
    have e:Nl (X0 sigs.nest P v nid ⟨dst,.store T x y,type,pos,after,guard⟩)=some (av,v'):=e
    rw [Qs hN] at e
    exact e
   have hlp:Aof v x=false:=by unfold Aof; rw [hl]
   rw [hlp] at e2
   simp only [Bool.false_eq_true,if_false] at e2
   obtain ⟨s',e3,e4⟩:=Ajg e2
   cases e4
   obtain ⟨cs,e5,_⟩:=Cn e3
   unfold Agf at e5
   rw [hl] at e5
   simp only [Option.bind_some] at e5
   obtain ⟨u,e6,e7⟩:=A6 e5
   split at e7
   ·cases e7
   ·split at e7
    ·split at e7
     ·split at e7
      ·cases e7
       have hne:id≠j:=by
        intro q
        subst q
        rw [if_pos (Df.2 hm)] at hw
        exact hw (List.mem_singleton.2 rfl)
       show K3 v.res j _ id=v.res id
       exact As _ _ hne
      ·cases e7
     ·cases e7
    ·cases e7
  ·exact absurd hm hw
 case call c=>
  unfold wrO at hw
  simp only at hw
  split at hw
  ·rename_i f xs hc
   split at hw
   ·rename_i sd hsd
    split at hw
    ·rename_i hq
     simp only [Bool.and_eq_true] at hq
     obtain ⟨q1,q2,q3,q4⟩:=hq
     unfold X3 at e
     rw [hc] at e
     simp only at e
     split at e
     ·rename_i vs hvs
      rw [hsd] at e
      simp only at e
      unfold Aly at e
      rw [q2,q3] at e
      simp only [Bool.and_self,if_true] at e
      obtain ⟨ls,e1,e⟩:=A6 e
      obtain ⟨q,e2,e⟩:=A6 e
      split at e
      ·split at e
       ·obtain ⟨r,e3,e⟩:=A6 e
        obtain ⟨vs',e4,e⟩:=A6 e
        cases e
        show Jb sd.sg.rs r.1 nid (M2 sd.sg.ps r.2 q.2 v.res) id=v.res id
        rw [A8y q1]
        refine C5 _ _ _ _ _ ?_
        have hq4:=Nat.le_of_ble_eq_true q4
        simp only [Q5,List.mem_cons,List.not_mem_nil,or_false,not_or] at hw
        omega
       ·cases e
      ·cases e
     ·cases e
    ·exact absurd hm hw
   ·exact absurd hm hw
  ·exact absurd hm hw
theorem Bk4 {v:St} {nid:Nat} {o:Oper} {m:List Nat} (hs:∀ i∈Q5 nid,i∈m) {id:Nat} (h:id∈wrO sigs v nid o m):id∈m:=by
 unfold wrO at h
 split at h
 ·split at h
  ·split at h
   ·rename_i q
    rw [List.mem_singleton.1 h]
    exact Df.1 q
   ·exact h
  ·exact h
 ·split at h
  ·split at h
   ·split at h
    ·exact hs id h
    ·exact h
   ·exact h
  ·exact h
 ·exact h
theorem Bin (hs:Ax P sigs) {s:St} {g:Gh} {a:Act} {w:World} (h:Bp n B Iq s g a w) {e:Uv} (hf:Beo P sigs ops s e) {i:Nat} (ho:ops[i]? = some e.o)
  {K:Act→World→Prop} {Q:Exit→Act→World→Prop} (hK:∀ a' g' w',Go B Iq s g w (e.app P n s) g' w'→Bp n B Iq (e.app P n s) g' a' w'→K a' w'):wpOp P ops Q i K a w:=by
 unfold wpOp
 rw [ho]
 simp only
 rcases hf with ⟨h1,av,v,h2,h3⟩ | ⟨h1,h2⟩
 ·rw [if_pos (Qt h h1)]
  left
  refine Bgl hs h h2 K Q fun u g' w' k1 k2 k3=>?_
  have happ:e.app P n s=St.put n (if Rf e.o then s else s.lay v (X5 s e.o++Q5 e.nid)) e.o.dst av:=by
   have q1:e.run=true:=by rw [h3]; rfl
   have q2:e.wr=wrO sigs (s.view (Ez e.o) (X5 s e.o)) e.nid e.o (X5 s e.o++Q5 e.nid):=by rw [h3]; rfl
   have q3:e.av=av:=by rw [h3]; rfl
   have q4:e.res=v.res:=by rw [h3]; rfl
   unfold Uv.app
   rw [q3]
   congr 1
   rw [q2,q4]
   by_cases hq:e.quiet P=true
   ·rw [if_pos hq]
    have hro:Av3 P e.o=true:=by
     unfold Uv.quiet at hq
     rw [q1] at hq
     simpa using hq
    by_cases hlt:Rf e.o=true
    ·rw [if_pos hlt]
    ·rw [if_neg hlt]
     unfold Akt at h2
     dsimp only at h2
     split at h2
     ·rename_i hfr
      split at h2
      ·obtain ⟨p,e1,e2⟩:=A6 h2
       split at e2
       ·split at e2<;>cases e2
        unfold X3 at e1
        rw [Bil hro] at e1
        simp only [Bkc hro] at e1
        have:=Bgm hro e1
        rw [this]
        refine St.ext' (fun i=>rfl) (fun id=>?_)
        show s.res id=if Mn _ id then (if Mn _ id then s.res id else .unborn) else s.res id
        split
        ·rename_i hm
         split
         ·rfl
         ·rename_i hn
          rcases List.mem_append.1 (Df.1 hm) with q | q
          ·exact absurd (Df.2 q) hn
          ·exact Al6 hfr id q
        ·rfl
       ·cases e2
      ·cases h2
     ·cases h2
   ·have hlt:¬ Rf e.o=true:=fun q=>hq (by
     unfold Uv.quiet
     rw [q1,Bgs q]
     rfl)
    rw [if_neg hq,if_neg hlt]
    unfold Akt at h2
    dsimp only at h2
    split at h2
    ·rename_i hfr
     split at h2
     ·obtain ⟨p,e1,e2⟩:=A6 h2
      split at e2
      ·split at e2<;>cases e2
       refine St.ext' (fun i=>rfl) (fun id=>?_)
       show (if Mn _ id then v.res id else s.res id)=if Mn _ id then v.res id else s.res id
       by_cases hm:id∈X5 s e.o++Q5 e.nid
       ·rw [if_pos (Df.2 hm)]
        split
        ·rfl
        ·rename_i hw
         rw [Bim e1 hm (fun q=>hw (Df.2 q))]
         show s.res id=if Mn _ id then s.res id else .unborn
         split
         ·rfl
         ·rename_i hn
          rcases List.mem_append.1 hm with q | q
          ·exact absurd (Df.2 q) hn
          ·exact Al6 hfr id q
       ·rw [if_neg (fun q=>hm (Df.1 q)),if_neg (fun q=>hm (Bk4 (fun i hi=>List.mem_append_right _ hi) (Df.1 q)))]
      ·cases e2
     ·cases h2
    ·cases h2
  obtain ⟨r1,r2⟩:=Ps k2 e.o.dst k3
  exact hK _ g' w' (by rw [happ]; exact k1.trans r2) (by rw [happ]; exact r1)
 ·rw [if_neg (by rw [Qt h h1]; simp)]
  have happ:e.app P n s=St.put n s e.o.dst (.tp []):=by
   have q1:e.run=false:=by rw [h2]; rfl
   have q2:e.av=.tp []:=by rw [h2]; rfl
   unfold Uv.app
   rw [q2]
   have:e.quiet P=true:=by unfold Uv.quiet; rw [q1]; rfl
   rw [if_pos this]
  obtain ⟨r1,r2⟩:=Ps (av:=.tp []) (v:=undef) h e.o.dst ⟨#[],rfl,rfl,fun j v hv=>by simp at hv⟩
  exact hK _ g w (by rw [happ]; exact r2) (by rw [happ]; exact r1)
theorem Bke (hs:Ax P sigs) {tr:List Uv} {s0:St} {g0:Gh} {w0:World} (htr:tr.map (·.o)=ops.toList) (hfit:Al7 P sigs ops n tr s0) (hok:Bep P ops 0 [] [] tr=true) {Q:Exit→Act→World→Prop}
  (hQ:∀ a g w,Go B Iq s0 g0 w0 (mix P n (fun _=>true) 0 tr s0) g w→Bp n B Iq (mix P n (fun _=>true) 0 tr s0) g a w→Q .normal a w):
  ∀ (fuel:Nat) (listed:Array Bool) (a:Act) (g:Gh) (w:World),listed.size=ops.size→unl listed ops.size≤fuel→Bgr tr (fun i=>listed.getD i false=true)→
   Go B Iq s0 g0 w0 (mix P n (fun i=>listed.getD i false) 0 tr s0) g w→Bp n B Iq (mix P n (fun i=>listed.getD i false) 0 tr s0) g a w→wpAny P .any ops Q fuel listed a w:=by
 have hlen:tr.length=ops.size:=by rw [← Array.length_toList,← htr]; simp
 obtain ⟨hconf,hlt⟩:=A8w (tr:=tr) (rest:=tr) (done:=[]) (ancs:=[]) rfl rfl hok (by simp) (by simp) (by simp)
 have hdone:∀ (listed:Array Bool) a g w,(∀ j,j < ops.size→listed.getD j false=true)→Go B Iq s0 g0 w0 (mix P n (fun i=>listed.getD i false) 0 tr s0) g w→
   Bp n B Iq (mix P n (fun i=>listed.getD i false) 0 tr s0) g a w→Q .normal a w:=by
  intro listed a g w hall h1 h2
  have:mix P n (fun i=>listed.getD i false) 0 tr s0=mix P n (fun _=>true) 0 tr s0:=Asd (fun j hj=>by
   rw [Nat.zero_add]
   exact hall j (by omega))
  rw [this] at h1 h2
  exact hQ a g w h1 h2
 intro fuel
 induction fuel with
 | zero=>
  intro listed a g w hsz hu hcl h1 h2
  have hall:=A8x listed ops.size (by omega)
  refine ⟨?_,hdone listed a g w hall h1 h2⟩
  cases hr:Region.ready .any ops listed with
  | nil=>rfl
  | cons j r=>
   exfalso
   have hj:j∈Region.ready .any ops listed:=by rw [hr]; simp
   obtain ⟨o,ho,h0,_⟩:=Azw hj
   have hlt:=(Array.getElem?_eq_some_iff.1 ho).1
   have:=hall j hlt
   simp [Array.getD,show j < listed.size by omega] at this h0
   rw [this] at h0
   cases h0
 | succ fuel ih=>
  intro listed a g w hsz hu hcl h1 h2
  refine ⟨fun hr=>hdone listed a g w (Bbs htr hsz hlt hr) h1 h2,fun i hi=>?_⟩
  obtain ⟨o,ho,h0,hp⟩:=Azw hi
  have hil:i < ops.size:=(Array.getElem?_eq_some_iff.1 ho).1
  have hf0:listed.getD i false=false:=by
   rw [← h0]
   simp [Array.getD,show i < listed.size by omega]
  have hte:tr[i]? = some (tr[i]'(by omega)):=List.getElem?_eq_getElem (by omega)
  generalize hen:tr[i]'(by omega)=e at hte
  have heo:e.o=o:=by
   have:ops[i]? = some e.o:=by
    rw [← Array.getElem?_toList,← htr,List.getElem?_map,hte]
    rfl
   rw [ho] at this
   exact (Option.some.inj this).symm
  have hnotbef:∀ j f,tr[j]? = some f→i < j→listed.getD j false=true→Rg P ops e f=true:=by
   intro j f q1 q2 q3
   rcases hconf i j e f hte q1 q2 with q | q
   ·exfalso
    have:=q _ hcl (hcl j f q1 q3)
    rw [hf0] at this
    cases this
   ·exact q
  have hahead:∀ j f,tr[j]? = some f→j < i→listed.getD j false=false→Rg P ops f e=true:=by
   intro j f q1 q2 q3
   rcases hconf j i f e q1 hte q2 with q | q
   ·exfalso
    have:=q _ hcl (fun p hpp=>hp p (by rw [← heo]; exact hpp))
    rw [q3] at this
    cases this
   ·exact q
  have hagree:=Ase (P:=P) (n:=n) (D:=fun i=>listed.getD i false) (e:=e) (tr:=tr) (k:=0) (i:=i) (s:=s0) (t:=s0) ⟨fun _ _=>rfl,fun _ _=>rfl⟩
   (fun j f q1 q2 q3=>by rw [Nat.zero_add] at q3; exact (Aot (hahead j f q1 q2 q3)).1)
   (fun j f q1 q2 q3=>by
    rw [Nat.zero_add] at q3
    by_cases q:j=i
    ·subst q
     rw [hf0] at q3
     cases q3
    ·exact (Aot (hnotbef j f q1 (by omega) q3)).2)
  have hfits:=(Al7.get (k:=0) hfit hte).local hagree.symm
  refine Bin hs h2 hfits (by rw [heo]; exact ho) fun a' g' w' k1 k2=>?_
  have hset:mix P n (fun j=>(listed.setIfInBounds i true).getD j false) 0 tr s0=e.app P n (mix P n (fun i=>listed.getD i false) 0 tr s0):=by
   refine Bc9 (ops:=ops) (i:=i) hte (by rw [Nat.zero_add]; exact hf0) (by rw [Nat.zero_add,Lz listed i i (by omega),if_pos rfl]) (fun j hj=>by rw [Nat.zero_add,Lz listed i j (by omega),if_neg hj]) (fun j f q1 q2 q3=>?_)
   rw [Nat.zero_add] at q3
   exact hnotbef j f q2 q1 q3
  refine ih (listed.setIfInBounds i true) a' g' w' (by simp [hsz]) ?_ ?_ (by rw [hset]; exact h1.trans k1) (by rw [hset]; exact k2)
  ·have:=Bdb listed i (by omega) hf0 ops.size hil
   omega
  ·intro k f q1 q2 p q3
   rw [Lz listed i k (by omega)] at q2
   rw [Lz listed i p (by omega)]
   split
   ·rfl
   ·by_cases q:k=i
    ·subst q
     rw [hte] at q1
     cases q1
     exact hp p (by rw [← heo]; exact q3)
    ·rw [if_neg q] at q2
     exact hcl k f q1 q2 p q3
end
end
section
def A8z (l:List (Nat×AV)) (i:Nat):AV:=match l with
 | []=>.dead
 | (j,v)::r=>bif Nat.beq j i then v else A8z r i
def A4y (l:List Jw) (i:Nat):Jw:=match l,i with
 | [],_=>.unborn
 | r::_,0=>r
 | _::l,i + 1=>A4y l i
def A80 (cs:List (Nat×AV)) (rs:List Jw):St:=⟨A8z cs,A4y rs⟩
def Aay (us:List Nat) (id:Nat):Option Nat:=match us with
 | []=>none
 | j::r=>bif Nat.beq j id then some 0 else (Aay r id).map (· + 1)
def Azx (s:St) (us:List Nat):Lf→Option Lf
 | .c v=>some (.c v)
 | .sl t xs=>some (.sl t xs)
 | .row id=>match s.res id with
  | .frozen t xs=>some (.sl t xs)
  | _=>(Aay us id).map .row
 | .ptr id off=>(Aay us id).map fun j=>.ptr j off
 | .ep t xs i off=>some (.ep t xs i off)
 | .rp id i off=>(Aay us id).map fun j=>.rp j i off
 | .sp id=>(Aay us id).map fun j=>.sp j
def Aov (s:St) (us:List Nat):List Lf→Option (List Lf)
 | []=>some []
 | l::r=>(Azx s us l).bind fun l'=>(Aov s us r).map fun r'=>l'::r'
def Bdc (s:St) (us:List Nat):Vl→Option Vl
 | .lf l=>(Azx s us l).map .lf
 | .ag ls=>(Aov s us ls).map .ag
def Asf (s:St) (us:List Nat):List Vl→Option (List Vl)
 | []=>some []
 | l::r=>(Bdc s us l).bind fun l'=>(Asf s us r).map fun r'=>l'::r'
def Azy (s:St) (us:List Nat):AV→AV
 | .dead=>.dead
 | .vl v=>match Bdc s us v with
  | some v=>.vl v
  | none=>.dead
 | .tp vs=>match Asf s us vs with
  | some vs=>.tp vs
  | none=>.dead
 | .fn f ls=>match Aov s us ls with
  | some ls=>.fn f ls
  | none=>.dead
def Dm (s:St) (us:List Nat):Jw→Jw
 | .box T ls=>match Aov s us ls with
  | some ls=>.box T ls
  | none=>.dead
 | .last e t xs c j=>match Aay us j with
  | some j'=>.last e t xs c j'
  | none=>.dead
 | .mid _ _ _ _ _=>.dead
 | r=>r
def Aow (s:St):List Lf→List Nat
 | []=>[]
 | .row id::r=>match s.res id with
  | .frozen _ _=>Aow s r
  | _=>id::Aow s r
 | .ptr id _::r=>id::Aow s r
 | .rp id _ _::r=>id::Aow s r
 | .sp id::r=>id::Aow s r
 | _::r=>Aow s r
def Bdd:List Vl→List Lf
 | []=>[]
 | v::r=>v.ls++Bdd r
def Bkf:AV→List Lf
 | .dead=>[]
 | .vl v=>v.ls
 | .tp vs=>Bdd vs
 | .fn _ ls=>ls
def A4z (s:St):List Nat→List Lf
 | []=>[]
 | i::r=>Bkf (s.cell i)++A4z s r
def A6l (s:St):List Nat→List Lf
 | []=>[]
 | i::r=>(match s.res i with | .box _ ls=>ls | .last _ _ _ _ j=>[.row j] | _=>[])++A6l s r
def Azz (us:List Nat):List Nat→List Nat
 | []=>us
 | i::r=>if Mn us i then Azz us r else Azz (us++[i]) r
def Bln (n:Nat):List Nat:=List.range n
def Ayi (s:St) (np:Nat) (live:List Nat):List Nat:=
 let l0:=Azz (Bln np) (Aow s (A4z s live))
 let l1:=Azz l0 (Aow s (A6l s l0))
 Azz l1 (Aow s (A6l s l1))
def A6m (s:St) (us:List Nat):List Nat→List (Nat×AV)
 | []=>[]
 | i::r=>(i,Azy s us (s.cell i))::A6m s us r
def A3e (s:St) (us:List Nat):List Nat→List Jw
 | []=>[]
 | i::r=>Dm s us (s.res i)::A3e s us r
def Ajk:Nat→Nat→List Nat→Bool
 | _,0,_=>true
 | k,m + 1,i::r=>Nat.beq i k&&Ajk (k + 1) m r
 | _,_ + 1,[]=>false
def canon (np:Nat) (live:List Nat) (s:St):Option (St×Nat):=
 let us:=Ayi s np live
 if Vm us&&Ajk 0 np us then some (A80 (A6m s us live) (A3e s us us),us.length) else none
section
variable {P:Program} {n B:Nat} {Iq:List Nat} {s:St} {g:Gh} {a:Act} {w:World}
theorem A40 {us:List Nat} {id j:Nat} (h:Aay us id=some j):us[j]? = some id:=by
 induction us generalizing j with
 | nil=>simp [Aay] at h
 | cons k r ih=>
  simp only [Aay] at h
  cases hq:Nat.beq k id with
  | true=>
   rw [hq] at h
   simp at h
   subst h
   simp [Nat.eq_of_beq_eq_true hq]
  | false=>
   rw [hq] at h
   simp only [cond_false] at h
   obtain ⟨i,h1,rfl⟩:=Option.map_eq_some_iff.1 h
   simpa using ih h1
theorem A41 {us':List Nat}:∀ {us:List Nat} {j:Nat},A4y (A3e s us' us) j=match us[j]? with | some id=>Dm s us' (s.res id) | none=>.unborn
 | [],_=>by simp [A3e,A4y]
 | i::r,0=>by simp [A3e,A4y]
 | i::r,j + 1=>by
  simp only [A3e,A4y]
  rw [A41 (us:=r)]
  simp
theorem A42 {us:List Nat}:∀ {l:List Nat} {i:Nat},A8z (A6m s us l) i=if i∈l then Azy s us (s.cell i) else .dead
 | [],i=>by simp [A6m,A8z]
 | j::r,i=>by
  simp only [A6m,A8z]
  cases hq:Nat.beq j i with
  | true=>
   have:=Nat.eq_of_beq_eq_true hq
   subst this
   simp
  | false=>
   have:j≠i:=fun e=>by subst e; simp at hq
   simp only [cond_false]
   rw [A42 (l:=r)]
   simp [Ne.symm this]
section
variable {us live:List Nat}
def P0 (s:St) (us:List Nat) (g:Gh):Gh:=⟨fun j=>match us[j]? with | some id=>if (Dm s us (s.res id)).live then g.blk id else none | none=>none,fun j=>match us[j]? with | some id=>g.hdr id | none=>undef,g.av,fun j=>match us[j]? with | some id=>g.innL id | none=>[]⟩
theorem Bgt {r:Jw} (h:(Dm s us r).live=true):r.live=true:=by
 cases r<;>simp only [Dm] at h<;>first | exact h | rfl
theorem Bio {r:Jw} (h:(Dm s us r).nst=true):r.nst=true:=by
 cases r<;>simp only [Dm] at h<;>first | rfl | (cases h; done) | (split at h<;>cases h; done)
theorem A6n {s':St} (hs:∀ j,s'.res j=match us[j]? with | some id=>Dm s us (s.res id) | none=>.unborn) {j b:Nat} (h1:(s'.res j).nst=true) (h2:(P0 s us g).inn j b):∃ id,us[j]? = some id∧(s.res id).nst=true∧g.inn id b:=by
 rw [hs] at h1
 simp only [Gh.inn,P0] at h2
 cases hu:us[j]? with
 | none=>rw [hu] at h1; cases h1
 | some id=>
  rw [hu] at h1 h2
  exact ⟨id,rfl,Bio h1,h2⟩
theorem Bgu {s':St} (hs:∀ j,s'.res j=match us[j]? with | some id=>Dm s us (s.res id) | none=>.unborn) (b:Nat) (hb:Eg s g b):Eg s' (P0 s us g) b:=by
 refine ⟨hb.1,fun j hl hk=>?_,fun j hn hi=>?_⟩
 ·rw [hs] at hl
  simp only [P0] at hk
  cases hu:us[j]? with
  | none=>rw [hu] at hl; cases hl
  | some id=>
   rw [hu] at hl hk
   simp only at hl hk
   rw [if_pos hl] at hk
   exact hb.2.1 id (Bgt hl) hk
 ·obtain ⟨id,_,h1,h2⟩:=A6n hs hn hi
  exact hb.2.2 id h1 h2
theorem Bde {s':St} (hs:∀ j,s'.res j=match us[j]? with | some id=>Dm s us (s.res id) | none=>.unborn) (hres:∀ id,Lr s g w id (s.res id)):
  ∀ {l l':Lf} {u:Value},Azx s us l=some l'→Cx s g w l u→Cx s' (P0 s us g) w l' u:=by
 have hS:∀ b,Eg s g b→b < w.heap.size→Eg s' (P0 s us g) b∧w.heap[b]? = w.heap[b]? := fun b hb _=>⟨Bgu hs b hb,rfl⟩
 have hat:∀ {id j:Nat},Aay us id=some j→s'.res j=Dm s us (s.res id)∧(P0 s us g).hdr j=g.hdr id∧((Dm s us (s.res id)).live=true→(P0 s us g).blk j=g.blk id):=by
  intro id j h
  have hu:=A40 h
  refine ⟨by rw [hs,hu],by simp only [P0,hu],fun hl=>by simp only [P0,hu]; rw [if_pos hl]⟩
 intro l l' u h hl
 cases l with
 | c v=>cases h; exact hl
 | sl t xs=>cases h; exact Ty.K_keep hS hl
 | row id=>
  simp only [Azx] at h
  split at h
  ·rename_i t xs hr
   cases h
   have r:=hres id
   rw [hr] at r
   simp only [Cx,hr] at hl
   rw [hl]
   exact Ty.K_keep hS r.1
  ·rename_i hn
   obtain ⟨j,h1,rfl⟩:=Option.map_eq_some_iff.1 h
   obtain ⟨a1,a2,a3⟩:=hat h1
   simp only [Cx] at hl ⊢
   rw [a1,a2]
   cases hr:s.res id with
   | unborn=>rw [hr] at hl; exact hl.elim
   | dead=>trivial
   | box T ls=>rw [hr] at hl; exact hl.elim
   | row e t xs=>rw [hr] at hl; exact hl
   | frozen t xs=>exact absurd hr (hn t xs)
   | last e t xs c k=>
    rw [hr] at hl
    simp only [Dm]
    cases hq:Aay us k with
    | none=>trivial
    | some k'=>exact hl
   | mid _ _ _ _ _=>trivial
   | map t xs=>rw [hr] at hl; exact hl
   | iter t xs seen cur=>rw [hr] at hl; exact hl
 | ptr id off=>
  simp only [Azx] at h
  obtain ⟨j,h1,rfl⟩:=Option.map_eq_some_iff.1 h
  obtain ⟨a1,a2,a3⟩:=hat h1
  simp only [Cx] at hl ⊢
  rw [a1]
  cases hr:s.res id with
  | unborn=>rw [hr] at hl; exact hl.elim
  | dead=>trivial
  | box T ls=>
   rw [hr] at hl a3
   simp only [Dm] at a3 ⊢
   cases hq:Aov s us ls with
   | none=>trivial
   | some ls'=>
    rw [hq] at a3
    obtain ⟨b,hb,hu⟩:=hl
    exact ⟨b,(a3 rfl).trans hb,hu⟩
  | row e t xs=>rw [hr] at hl; exact hl.elim
  | frozen t xs=>rw [hr] at hl; exact hl.elim
  | last _ _ _ _ _=>rw [hr] at hl; exact hl.elim
  | mid _ _ _ _ _=>rw [hr] at hl; exact hl.elim
  | map _ _=>rw [hr] at hl; exact hl.elim
  | iter _ _ _ _=>rw [hr] at hl; exact hl.elim
 | ep t xs i off=>
  cases h
  obtain ⟨ad,cs,h1,h2,h3,h4,h5⟩:=hl
  exact ⟨ad,cs,h1,Bgu hs _ h2,h3,Ty.K_keep hS h4,h5⟩
 | rp id i off=>
  simp only [Azx] at h
  obtain ⟨j,h1,rfl⟩:=Option.map_eq_some_iff.1 h
  obtain ⟨a1,a2,a3⟩:=hat h1
  simp only [Cx] at hl ⊢
  rw [a1]
  cases hr:s.res id with
  | unborn=>rw [hr] at hl; exact hl.elim
  | dead=>trivial
  | box T ls=>rw [hr] at hl; exact hl.elim
  | row e t xs=>
   rw [hr] at hl a3
   obtain ⟨hi,b,hb,hu⟩:=hl
   exact ⟨hi,b,(a3 rfl).trans hb,hu⟩
  | frozen t xs=>trivial
  | last e t xs c k=>
   rw [hr] at hl a3
   simp only [Dm] at a3 ⊢
   cases hq:Aay us k with
   | none=>trivial
   | some k'=>
    rw [hq] at a3
    obtain ⟨hi,b,hb,hu⟩:=hl
    exact ⟨hi,b,(a3 rfl).trans hb,hu⟩
  | mid _ _ _ _ _=>trivial
  | map _ _=>rw [hr] at hl; exact hl.elim
  | iter _ _ _ _=>rw [hr] at hl; exact hl.elim
 | sp id=>
  simp only [Azx] at h
  obtain ⟨j,h1,rfl⟩:=Option.map_eq_some_iff.1 h
  obtain ⟨a1,a2,a3⟩:=hat h1
  simp only [Cx] at hl ⊢
  rw [a1]
  cases hr:s.res id with
  | unborn=>rw [hr] at hl; exact hl.elim
  | dead=>trivial
  | box T ls=>
   rw [hr] at hl a3
   simp only [Dm] at a3 ⊢
   cases hq:Aov s us ls with
   | none=>trivial
   | some ls'=>
    rw [hq] at a3
    rcases hl with hl | ⟨b,hb,hu⟩
    ·exact .inl hl
    ·exact .inr ⟨b,(a3 rfl).trans hb,hu⟩
  | row e t xs=>rw [hr] at hl; exact hl.elim
  | frozen t xs=>rw [hr] at hl; exact hl.elim
  | last _ _ _ _ _=>rw [hr] at hl; exact hl.elim
  | mid _ _ _ _ _=>rw [hr] at hl; exact hl.elim
  | map _ _=>rw [hr] at hl; exact hl.elim
  | iter _ _ _ _=>rw [hr] at hl; exact hl.elim
section
variable {s':St} (hs:∀ j,s'.res j=match us[j]? with | some id=>Dm s us (s.res id) | none=>.unborn) (hres:∀ id,Lr s g w id (s.res id))
 include hs hres
theorem Ayj:∀ {ls ls':List Lf} {cs:List Value},Aov s us ls=some ls'→I6 s g w ls cs→I6 s' (P0 s us g) w ls' cs
 | [],ls',[],h,_=>by cases h; trivial
 | [],_,_::_,_,h=>h.elim
 | _::_,_,[],_,h=>h.elim
 | l::r,ls',c::cs,h,hL=>by
  simp only [Aov] at h
  obtain ⟨l',h1,h2⟩:=A6 h
  obtain ⟨r',h3,rfl⟩:=Option.map_eq_some_iff.1 h2
  exact ⟨⟨Bde hs hres h1 hL.1.1,hL.1.2⟩,Ayj h3 hL.2⟩
theorem Bdf {v v':Vl} {u:Value} (h:Bdc s us v=some v') (hv:VlR s g w v u):VlR s' (P0 s us g) w v' u:=by
 cases v with
 | lf l=>
  obtain ⟨l',h1,rfl⟩:=Option.map_eq_some_iff.1 h
  exact ⟨Bde hs hres h1 hv.1,hv.2⟩
 | ag ls=>
  obtain ⟨l',h1,rfl⟩:=Option.map_eq_some_iff.1 h
  obtain ⟨cs,e1,e2⟩:=hv
  exact ⟨cs,e1,Ayj hs hres h1 e2⟩
 omit hs hres in
theorem Az0:∀ {vs vs':List Vl} {j:Nat} {v':Vl},Asf s us vs=some vs'→vs'[j]? = some v'→∃ v,vs[j]? = some v∧Bdc s us v=some v'
 | [],vs',j,v',h,hj=>by cases h; simp at hj
 | v::r,vs',j,v',h,hj=>by
  simp only [Asf] at h
  obtain ⟨l',h1,h2⟩:=A6 h
  obtain ⟨r',h3,rfl⟩:=Option.map_eq_some_iff.1 h2
  cases j with
  | zero=>simp at hj; subst hj; exact ⟨v,rfl,h1⟩
  | succ j=>
   obtain ⟨x,e1,e2⟩:=Az0 h3 (j:=j) (by simpa using hj)
   exact ⟨x,by simpa using e1,e2⟩
 omit hs hres in
theorem Az1:∀ {vs vs':List Vl},Asf s us vs=some vs'→vs'.length=vs.length
 | [],vs',h=>by cases h; rfl
 | v::r,vs',h=>by
  simp only [Asf] at h
  obtain ⟨l',h1,h2⟩:=A6 h
  obtain ⟨r',h3,rfl⟩:=Option.map_eq_some_iff.1 h2
  simp [Az1 h3]
theorem Bip {v:AV} {u:Value} (hv:c9 s g w v u):c9 s' (P0 s us g) w (Azy s us v) u:=by
 cases v with
 | dead=>trivial
 | vl v=>
  simp only [Azy]
  split
  ·rename_i v' h
   exact Bdf hs hres h hv
  ·trivial
 | tp vs=>
  simp only [Azy]
  split
  ·rename_i vs' h
   obtain ⟨cs,h1,h2,h3⟩:=hv
   refine ⟨cs,h1,by rw [Az1 h]; exact h2,fun j l hl=>?_⟩
   obtain ⟨v,e1,e2⟩:=Az0 h hl
   obtain ⟨x,e3,e4⟩:=h3 j v e1
   exact ⟨x,e3,Bdf hs hres e2 e4⟩
  ·trivial
 | fn f ls=>
  simp only [Azy]
  split
  ·rename_i ls' h
   obtain ⟨cs,h1,h2⟩:=hv
   exact ⟨cs,h1,Ayj hs hres h h2⟩
  ·trivial
end
end
theorem Bgv (h:Bp n B Iq s g a w) {np:Nat} {live:List Nat} {s':St} {nid:Nat} (e:canon np live s=some (s',nid)):
  ∃ g',Bp n B Iq s' g' a w∧g'.av=g.av∧∀ id,id < np→(s'.res id=.unborn→s.res id=.unborn)∧(∀ T ls,s'.res id=.box T ls→(∃ T' ls',s.res id=.box T' ls')∧g'.blk id=g.blk id)∧(∀ e,∀ t:Ty,∀ xs:List t.D,s'.res id=.row e t xs→(∃ e',∃ xs':List t.D,s.res id=.row e' t xs')∧g'.blk id=g.blk id∧g'.hdr id=g.hdr id)∧((s'.res id).nst=true→(s.res id).nst=true∧g'.blk id=g.blk id∧g'.hdr id=g.hdr id):=by
 unfold canon at e
 dsimp only at e
 generalize hus:Ayi s np live=us at e
 split at e<;>cases e
 rename_i hc
 simp only [Bool.and_eq_true] at hc
 have hnd:=Aoc hc.1
 have hs:∀ j,(A80 (A6m s us live) (A3e s us us)).res j=match us[j]? with | some id=>Dm s us (s.res id) | none=>.unborn:=fun j=>A41
 have hcell:∀ i,(A80 (A6m s us live) (A3e s us us)).cell i=if i∈live then Azy s us (s.cell i) else .dead:=fun i=>A42
 generalize A80 (A6m s us live) (A3e s us us)=s' at hs hcell ⊢
 have hst:∀ k m l,Ajk k m l=true→∀ j,j < m→l[j]? = some (k + j):=by
  intro k m
  induction m generalizing k with
  | zero=>intro l _ j hj; omega
  | succ m ih=>
   intro l hl j hj
   cases l with
   | nil=>simp [Ajk] at hl
   | cons i r=>
    simp only [Ajk,Bool.and_eq_true] at hl
    cases j with
    | zero=>simp [Nat.eq_of_beq_eq_true hl.1]
    | succ j=>
     have:=ih (k + 1) r hl.2 j (by omega)
     rw [List.getElem?_cons_succ,this]
     congr 1
     omega
 have hpin:∀ id,id < np→us[id]? = some id:=fun id hid=>by have:=hst 0 np us hc.2 id hid; simpa using this
 have blk_of:∀ j b,(P0 s us g).blk j=some b→∃ id,us[j]? = some id∧g.blk id=some b∧(Dm s us (s.res id)).live=true:=by
  intro j b hb
  simp only [P0] at hb
  cases hu:us[j]? with
  | none=>rw [hu] at hb; cases hb
  | some id=>
   rw [hu] at hb
   simp only at hb
   split at hb
   ·rename_i hl
    exact ⟨id,rfl,hb,hl⟩
   ·cases hb
 refine ⟨P0 s us g,⟨h.size,h.defers,h.base,fun i=>?_,fun j=>?_,fun i j b hi hj=>?_,fun j b hb=>?_,h.avB,fun j b h1 h2=>?_⟩,rfl,fun id hid=>?_⟩
 ·rw [hcell]
  split
  ·exact Bip hs h.res (h.cell i)
  ·trivial
 ·rw [hs]
  cases hu:us[j]? with
  | none=>show (P0 s us g).blk j=none; simp only [P0,hu]
  | some id=>
   simp only
   have r:=h.res id
   have hblk:(P0 s us g).blk j=if (Dm s us (s.res id)).live then g.blk id else none:=by simp only [P0,hu]
   have hhdr:(P0 s us g).hdr j=g.hdr id:=by simp only [P0,hu]
   have hSS:∀ b,Eg s g b→b < w.heap.size→Eg s' (P0 s us g) b:=fun b hb _=>Bgu hs b hb
   cases hr:s.res id with
   | unborn=>rw [hr] at hblk; exact hblk
   | dead=>rw [hr] at hblk; exact hblk
   | box T ls=>
    rw [hr] at r hblk
    cases hq:Aov s us ls with
    | none=>
     have hrr:Dm s us (.box T ls)=.dead:=by simp only [Dm,hq]
     rw [hrr] at hblk ⊢
     exact hblk
    | some ls'=>
     have hrr:Dm s us (.box T ls)=.box T ls':=by simp only [Dm,hq]
     rw [hrr] at hblk ⊢
     obtain ⟨b,cs,h1,h2,h3⟩:=r
     exact ⟨b,cs,hblk.trans h1,h2,Ayj hs h.res hq h3⟩
   | row e t xs=>
    rw [hr] at r hblk
    obtain ⟨cs,h1,h2,h3⟩:=r
    exact ⟨cs,by rw [hhdr]; exact h1,h2.imp hSS,by rw [hhdr]; exact hblk.trans h3⟩
   | frozen t xs=>
    rw [hr] at r hblk
    exact ⟨by rw [hhdr]; exact Ty.K_keep (fun b hb hl=>⟨hSS b hb hl,rfl⟩) r.1,hblk⟩
   | last e t xs c k=>
    rw [hr] at r hblk
    cases hq:Aay us k with
    | none=>
     have hrr:Dm s us (.last e t xs c k)=.dead:=by simp only [Dm,hq]
     rw [hrr] at hblk ⊢
     exact hblk
    | some k'=>
     have hrr:Dm s us (.last e t xs c k)=.last e t xs c k':=by simp only [Dm,hq]
     rw [hrr] at hblk ⊢
     obtain ⟨cs,h1,h2,h3,h4⟩:=r
     have hni:(P0 s us g).inn j=g.inn id:=by funext b; simp only [Gh.inn,P0,hu]
     refine ⟨cs,by rw [hhdr]; exact h1,by rw [hni]; exact h2.keep (fun b hb hl=>⟨hSS b hb hl,rfl⟩) (fun _ _=>rfl),by rw [hhdr]; exact hblk.trans h3,fun u hc hu=>?_⟩
     have h5:=h4 u hc hu
     have hk':=A40 hq
     have e1:s'.res k'=Dm s us (s.res k):=by rw [hs,hk']
     have e2:(P0 s us g).hdr k'=g.hdr k:=by simp only [P0,hk']
     rw [e1,e2]
     cases hrk:s.res k with
     | unborn=>rw [hrk] at h5; exact h5.elim
     | dead=>trivial
     | box T ls=>rw [hrk] at h5; exact h5.elim
     | row _ _ _=>rw [hrk] at h5; exact h5
     | frozen _ _=>rw [hrk] at h5; exact h5
     | last _ _ _ _ _=>rw [hrk] at h5; exact h5.elim
     | mid _ _ _ _ _=>rw [hrk] at h5; exact h5.elim
     | map _ _=>rw [hrk] at h5; exact h5.elim
     | iter _ _ _ _=>rw [hrk] at h5; exact h5.elim
   | mid _ _ _ _ _=>rw [hr] at hblk; exact hblk
   | map t xs=>
    rw [hr] at r hblk
    obtain ⟨b,es,clock,h1,h2,h3⟩:=r
    exact ⟨b,es,clock,hblk.trans h1,hhdr.trans h2,h3⟩
   | iter t xs seen cur=>
    rw [hr] at r hblk
    obtain ⟨b,r,es,clock,since,c0,sn,h1,h2,h3,h4,h5,h6⟩:=r
    exact ⟨b,r,es,clock,since,c0,sn,hblk.trans h1,hhdr.trans h2,h3,hSS b h4 h5,h5,h6⟩
 ·obtain ⟨i0,e1,e2,_⟩:=blk_of i b hi
  obtain ⟨j0,e3,e4,_⟩:=blk_of j b hj
  have:=h.inj i0 j0 b e2 e4
  subst this
  have hil:=(List.getElem?_eq_some_iff.1 e1).1
  exact (List.getElem?_inj hil hnd).1 (e1.trans e3.symm)
 ·obtain ⟨id,e1,e2,_⟩:=blk_of j b hb
  exact h.lt id b e2
 ·obtain ⟨id,k1,k2,k3⟩:=A6n hs h1 h2
  obtain ⟨p1,p2,p3⟩:=h.inn id b k2 k3
  refine ⟨p1,fun j' hb=>?_,fun j' hne hn hi=>?_⟩
  ·obtain ⟨id',_,e2,_⟩:=blk_of j' b hb
   exact p2 id' e2
  ·obtain ⟨id',q1,q2,q3⟩:=A6n hs hn hi
   refine p3 id' (fun e=>?_) q2 q3
   subst e
   exact hne ((List.getElem?_inj (List.getElem?_eq_some_iff.1 q1).1 hnd).1 (q1.trans k1.symm))
 ·have hu:=hpin id hid
  have hsr:s'.res id=Dm s us (s.res id):=by rw [hs,hu]
  have hb:(P0 s us g).blk id=if (Dm s us (s.res id)).live then g.blk id else none:=by simp only [P0,hu]
  have hh:(P0 s us g).hdr id=g.hdr id:=by simp only [P0,hu]
  refine ⟨fun hq=>?_,fun T ls hq=>?_,fun e t xs hq=>?_,fun hq=>?_⟩
  rotate_left 3
  ·rw [hsr] at hq
   have hl:(Dm s us (s.res id)).live=true:=by
    cases hk:Dm s us (s.res id)<;>rw [hk] at hq<;>first | rfl | cases hq
   rw [if_pos hl] at hb
   refine ⟨?_,hb,hh⟩
   cases hr:s.res id with
   | unborn=>rw [hr] at hq; cases hq
   | box T ls=>
    rw [hr] at hq
    simp only [Dm] at hq
    split at hq<;>cases hq
   | dead=>rw [hr] at hq; cases hq
   | row e t xs=>rw [hr] at hq; cases hq
   | frozen t xs=>rw [hr] at hq; cases hq
   | last _ _ _ _ _=>rfl
   | mid _ _ _ _ _=>rfl
   | map _ _=>rw [hr] at hq; cases hq
   | iter _ _ _ _=>rw [hr] at hq; cases hq
  ·rw [hsr] at hq
   cases hr:s.res id with
   | unborn=>rfl
   | box T ls=>
    rw [hr] at hq
    simp only [Dm] at hq
    split at hq<;>cases hq
   | dead=>rw [hr] at hq; cases hq
   | row e t xs=>rw [hr] at hq; cases hq
   | frozen t xs=>rw [hr] at hq; cases hq
   | last _ _ _ _ _=>
    rw [hr] at hq
    simp only [Dm] at hq
    split at hq<;>cases hq
   | mid _ _ _ _ _=>rw [hr] at hq; cases hq
   | map _ _=>rw [hr] at hq; cases hq
   | iter _ _ _ _=>rw [hr] at hq; cases hq
  ·rw [hsr] at hq
   rw [hq] at hb
   refine ⟨?_,hb⟩
   cases hr:s.res id with
   | unborn=>rw [hr] at hq; cases hq
   | box T ls=>exact ⟨T,ls,rfl⟩
   | dead=>rw [hr] at hq; cases hq
   | row e t xs=>rw [hr] at hq; cases hq
   | frozen t xs=>rw [hr] at hq; cases hq
   | last _ _ _ _ _=>
    rw [hr] at hq
    simp only [Dm] at hq
    split at hq<;>cases hq
   | mid _ _ _ _ _=>rw [hr] at hq; cases hq
   | map _ _=>rw [hr] at hq; cases hq
   | iter _ _ _ _=>rw [hr] at hq; cases hq
  ·rw [hsr] at hq
   rw [hq] at hb
   refine ⟨?_,hb,hh⟩
   cases hr:s.res id with
   | unborn=>rw [hr] at hq; cases hq
   | box T ls=>
    rw [hr] at hq
    simp only [Dm] at hq
    split at hq<;>cases hq
   | dead=>rw [hr] at hq; cases hq
   | row e t xs=>rw [hr] at hq; cases hq; exact ⟨e,xs,rfl⟩
   | frozen t xs=>rw [hr] at hq; cases hq
   | last _ _ _ _ _=>
    rw [hr] at hq
    simp only [Dm] at hq
    split at hq<;>cases hq
   | mid _ _ _ _ _=>rw [hr] at hq; cases hq
   | map _ _=>rw [hr] at hq; cases hq
   | iter _ _ _ _=>rw [hr] at hq; cases hq
end
end
section
inductive Pe where
 | d (t:Ty)
 | row (id:Nat)
 | ptr (id off:Nat)
 | sp (id:Nat)
inductive Pv where
 | dead
 | lf (p:Pe)
 | ag (ps:List Pe)
 | fn (f:FuncId) (ps:List Pe)
inductive Pr where
 | dead
 | unborn
 | box (T:TypeId) (ps:List Pe)
 | row (e:TypeId) (t:Ty)
 | last (e:NE) (t:Ty) (j:Nat)
 | map (t:Ty)
 | iter (t:Ty)
inductive Fx where
 | sl (slot ix:Nat) (t:Ty)
 | row (slot ix:Nat) (e:TypeId) (t:Ty)
 | boxSl (slot ix:Nat) (t:Ty)
 | boxRow (slot ix:Nat) (e:TypeId) (t:Ty)
 | self (slot ix:Nat)
 | last (slot:Nat) (e:TypeId) (t:Ty)
 | lastU (slot:Nat) (e:TypeId) (t:Ty)
 | back (slot:Nat)
structure Da where
 fx:List Fx
 cs:List (Nat×Pv)
 rs:List Pr
def Az2:List Pe→Type→Type
 | [],X=>X
 | .d t::r,X=>t.D×Az2 r X
 | .row _::r,X=>Az2 r X
 | .ptr _ _::r,X=>Az2 r X
 | .sp _::r,X=>Az2 r X
def PvD:Pv→Type→Type
 | .dead,X=>X
 | .lf p,X=>Az2 [p] X
 | .ag ps,X=>Az2 ps X
 | .fn _ ps,X=>Az2 ps X
def CsD:List (Nat×Pv)→Type→Type
 | [],X=>X
 | p::r,X=>PvD p.2 (CsD r X)
def PrD:Pr→Type→Type
 | .dead,X=>X
 | .unborn,X=>X
 | .box _ ps,X=>Az2 ps X
 | .row _ t,X=>List t.D×X
 | .last _ t _,X=>List (List t.D)×Bool×X
 | .map t,X=>List (Aa×t.D)×X
 | .iter t,X=>List (Aa×t.D)×List (Aa×t.D)×Option (Aa×t.D)×X
def RsD:List Pr→Type→Type
 | [],X=>X
 | p::r,X=>PrD p (RsD r X)
def Da.D (p:Da):Type:=CsD p.cs (RsD p.rs Unit)
section
variable {X:Type}
def Bz:(ps:List Pe)→Az2 ps X→List Lf×X
 | [],d=>([],d)
 | .d t::r,d=>(t.leafs d.1++(Bz r d.2).1,(Bz r d.2).2)
 | .row id::r,d=>(.row id::(Bz r d).1,(Bz r d).2)
 | .ptr id off::r,d=>(.ptr id off::(Bz r d).1,(Bz r d).2)
 | .sp id::r,d=>(.sp id::(Bz r d).1,(Bz r d).2)
def Bgw:List Lf→AV
 | [l]=>.vl (.lf l)
 | _=>.dead
def g8:(p:Pv)→PvD p X→AV×X
 | .dead,d=>(.dead,d)
 | .lf p,d=>(Bgw (Bz [p] d).1,(Bz [p] d).2)
 | .ag ps,d=>(.vl (.ag (Bz ps d).1),(Bz ps d).2)
 | .fn f ps,d=>(.fn f (Bz ps d).1,(Bz ps d).2)
def g9:(l:List (Nat×Pv))→CsD l X→List (Nat×AV)×X
 | [],d=>([],d)
 | p::r,d=>((p.1,(g8 p.2 d).1)::(g9 r (g8 p.2 d).2).1,(g9 r (g8 p.2 d).2).2)
def Aaz:(p:Pr)→PrD p X→Jw×X
 | .dead,d=>(.dead,d)
 | .unborn,d=>(.unborn,d)
 | .box T ps,d=>(.box T (Bz ps d).1,(Bz ps d).2)
 | .row e t,d=>(.row e t d.1,d.2)
 | .last e t j,d=>(.last e t d.1 d.2.1 j,d.2.2)
 | .map t,d=>(.map t d.1,d.2)
 | .iter t,d=>(.iter t d.1 d.2.1 d.2.2.1,d.2.2.2)
def Aef:(l:List Pr)→RsD l X→List Jw×X
 | [],d=>([],d)
 | p::r,d=>((Aaz p d).1::(Aef r (Aaz p d).2).1,(Aef r (Aaz p d).2).2)
end
def Da.st (p:Da) (d:p.D):St:=A80 (g9 p.cs d).1 (Aef p.rs (g9 p.cs d).2).1
def Da.nid (p:Da):Nat:=p.rs.length
def Bbt:(t:Ty)→Lf→Option t.D
 | .int k,.c (.int k' n)=>if k'=k then some n else none
 | .bool,.c (.bool b)=>some b
 | .str,.c (.string b)=>some b
 | .sl t,.sl t' xs=>if h:t'=t then some (h ▸ xs) else none
 | _,_=>none
def z8:(t:Ty)→List Lf→Option (t.D×List Lf)
 | .unit,ls=>some ((),ls)
 | .pair a b,ls=>(z8 a ls).bind fun p=>(z8 b p.2).bind fun q=>some ((p.1,q.1),q.2)
 | .int k,l::r=>(Bbt (.int k) l).bind fun x=>some (x,r)
 | .bool,l::r=>(Bbt .bool l).bind fun x=>some (x,r)
 | .str,l::r=>(Bbt .str l).bind fun x=>some (x,r)
 | .sl t,l::r=>(Bbt (.sl t) l).bind fun x=>some (x,r)
 | _,[]=>none
def A6o (id:Nat):List Lf→Option (List Lf)
 | .row j::r=>if j=id then some r else none
 | _=>none
def A6p (id off:Nat):List Lf→Option (List Lf)
 | .ptr j o::r=>if j=id then (if o=off then some r else none) else none
 | _=>none
def Bbu (id:Nat):List Lf→Option (List Lf)
 | .sp j::r=>if j=id then some r else none
 | _=>none
def Bk6 {X:Type} (k:Option X):List Lf→Option X
 | []=>k
 | _::_=>none
section
variable {X:Type} (k:Option X)
def Ti:(ps:List Pe)→List Lf→Option (Az2 ps X)
 | [],ls=>Bk6 k ls
 | .d t::r,ls=>(z8 t ls).bind fun p=>(Ti r p.2).bind fun q=>some (p.1,q)
 | .row id::r,ls=>(A6o id ls).bind fun ls'=>Ti r ls'
 | .ptr id off::r,ls=>(A6p id off ls).bind fun ls'=>Ti r ls'
 | .sp id::r,ls=>(Bbu id ls).bind fun ls'=>Ti r ls'
def Blo:AV→Option (List Lf)
 | .vl (.ag ls)=>some ls
 | _=>none
def Bk7 (f:FuncId):AV→Option (List Lf)
 | .fn f' ls=>if f'=f then some ls else none
 | _=>none
def Blp:AV→Option Lf
 | .vl (.lf l)=>some l
 | _=>none
def Bkg:AV→Option Unit
 | .dead=>some ()
 | _=>none
def Bgx:(p:Pv)→AV→Option (PvD p X)
 | .dead,v=>(Bkg v).bind fun _=>k
 | .lf p,v=>(Blp v).bind fun l=>Ti k [p] [l]
 | .ag ps,v=>(Blo v).bind fun ls=>Ti k ps ls
 | .fn f ps,v=>(Bk7 f v).bind fun ls=>Ti k ps ls
def Bjq (T:TypeId):Jw→Option (List Lf)
 | .box T' ls=>if T'=T then some ls else none
 | _=>none
def A81 (e:TypeId) (t:Ty):Jw→Option (List t.D)
 | .row e' t' xs=>if e'=e then (if h:t'=t then some (h ▸ xs) else none) else none
 | _=>none
def Bgy (e:NE) (t:Ty) (j:Nat):Jw→Option (List (List t.D)×Bool)
 | .last e' t' xs c j'=>if e'=e then (if j'=j then (if h:t'=t then some (h ▸ xs,c) else none) else none) else none
 | _=>none
def Bjr (t:Ty):Jw→Option (List (Aa×t.D))
 | .map t' xs=>if h:t'=t then some (h ▸ xs) else none
 | _=>none
def Bgz (t:Ty):Jw→Option (List (Aa×t.D)×List (Aa×t.D)×Option (Aa×t.D))
 | .iter t' xs seen cur=>if h:t'=t then some (h ▸ xs,h ▸ seen,h ▸ cur) else none
 | _=>none
def Biq:Jw→Option Unit
 | .dead=>some ()
 | _=>none
def Ber:Jw→Option Unit
 | .unborn=>some ()
 | _=>none
def Bjs:(p:Pr)→Jw→Option (PrD p X)
 | .dead,v=>(Biq v).bind fun _=>k
 | .unborn,v=>(Ber v).bind fun _=>k
 | .box T ps,v=>(Bjq T v).bind fun ls=>Ti k ps ls
 | .row e t,v=>(A81 e t v).bind fun xs=>k.bind fun x=>some (xs,x)
 | .last e t j,v=>(Bgy e t j v).bind fun xs=>k.bind fun x=>some (xs.1,xs.2,x)
 | .map t,v=>(Bjr t v).bind fun xs=>k.bind fun x=>some (xs,x)
 | .iter t,v=>(Bgz t v).bind fun xs=>k.bind fun x=>some (xs.1,xs.2.1,xs.2.2,x)
end
def Bk8 {X:Type} (k:Option X) {α:Type}:List α→Option X
 | []=>k
 | _::_=>none
def Bkh {α:Type}:List α→Option (α×List α)
 | []=>none
 | a::r=>some (a,r)
def A82 {X:Type} (k:Option X):(l:List (Nat×Pv))→List (Nat×AV)→Option (CsD l X)
 | [],cs=>Bk8 k cs
 | p::r,cs=>(Bkh cs).bind fun q=>if q.1.1=p.1 then Bgx (A82 k r q.2) p.2 q.1.2 else none
def Bdh {X:Type} (k:Option X):(l:List Pr)→List Jw→Option (RsD l X)
 | [],rs=>Bk8 k rs
 | p::r,rs=>(Bkh rs).bind fun q=>Bjs (Bdh k r q.2) p q.1
theorem Aaa {α β:Type} {a a':α} {b b':β} (h1:a=a') (h2:b=b'):(a,b)=(a',b'):=by rw [h1,h2]
theorem Bbv:∀ {t:Ty} {l:Lf} {x:t.D},Bbt t l=some x→t.leafs x=[l]:=by
 intro t l x h
 unfold Bbt at h
 split at h
 ·split at h<;>cases h
  rename_i hk
  subst hk
  rfl
 ·cases h; rfl
 ·cases h; rfl
 ·split at h<;>cases h
  rename_i hk
  subst hk
  rfl
 ·cases h
theorem A6q:∀ {t:Ty} {ls:List Lf} {x:t.D} {r:List Lf},z8 t ls=some (x,r)→ls=t.leafs x++r:=by
 have one:∀ {t:Ty} {l:Lf} {r0 r:List Lf} {x:t.D},((Bbt t l).bind fun x=>some (x,r0))=some (x,r)→l::r0=t.leafs x++r:=by
  intro t l r0 r x h
  obtain ⟨y,h1,h2⟩:=A6 h
  cases h2
  rw [Bbv h1]
  rfl
 intro t
 induction t with
 | unit=>intro ls x r h; simp only [z8] at h; cases h; rfl
 | pair a b iha ihb=>
  intro ls x r h
  simp only [z8] at h
  obtain ⟨p,h1,h2⟩:=A6 h
  obtain ⟨q,h3,h4⟩:=A6 h2
  cases h4
  have e1:=iha (x:=p.1) (r:=p.2) h1
  have e2:=ihb (x:=q.1) (r:=q.2) h3
  rw [e1,e2,← List.append_assoc]
  rfl
 | int k=>intro ls x r h; cases ls with
  | nil=>simp [z8] at h
  | cons l ls=>exact one h
 | bool=>intro ls x r h; cases ls with
  | nil=>simp [z8] at h
  | cons l ls=>exact one h
 | str=>intro ls x r h; cases ls with
  | nil=>simp [z8] at h
  | cons l ls=>exact one h
 | sl t _=>intro ls x r h; cases ls with
  | nil=>simp [z8] at h
  | cons l ls=>exact one h
theorem Bbw {id:Nat} {ls r:List Lf} (h:A6o id ls=some r):ls=.row id::r:=by
 unfold A6o at h
 split at h
 ·split at h<;>cases h
  rename_i hj
  rw [hj]
 ·cases h
theorem Bes {id:Nat} {ls r:List Lf} (h:Bbu id ls=some r):ls=.sp id::r:=by
 unfold Bbu at h
 split at h
 ·split at h<;>cases h
  rename_i hj
  rw [hj]
 ·cases h
theorem Bbx {id off:Nat} {ls r:List Lf} (h:A6p id off ls=some r):ls=.ptr id off::r:=by
 unfold A6p at h
 split at h
 ·split at h
  ·rename_i hj
   split at h<;>cases h
   rename_i ho
   rw [hj,ho]
  ·cases h
 ·cases h
section
variable {X:Type} {k:Option X}
theorem N1:∀ {ps:List Pe} {ls:List Lf} {d:Az2 ps X},Ti k ps ls=some d→∃ x,k=some x∧Bz ps d=(ls,x)
 | [],ls,d,h=>by
  cases ls with
  | nil=>exact ⟨d,h,rfl⟩
  | cons l ls=>cases h
 | .d t::r,ls,d,h=>by
  simp only [Ti] at h
  obtain ⟨p,h1,h2⟩:=A6 h
  obtain ⟨q,h3,h4⟩:=A6 h2
  cases h4
  obtain ⟨x,e1,e2⟩:=N1 h3
  refine ⟨x,e1,?_⟩
  show (t.leafs p.1++(Bz r q).1,(Bz r q).2)=_
  rw [e2,A6q (x:=p.1) (r:=p.2) h1]
 | .row id::r,ls,d,h=>by
  simp only [Ti] at h
  obtain ⟨ls',h1,h2⟩:=A6 h
  obtain ⟨x,e1,e2⟩:=N1 (ps:=r) (d:=d) h2
  refine ⟨x,e1,?_⟩
  show (Lf.row id::(Bz r d).1,(Bz r d).2)=_
  have e2':Bz r (X:=X) d=(ls',x):=e2
  rw [Bbw h1]
  have a1:(Bz r (X:=X) d).1=ls':=congrArg Prod.fst e2'
  have a2:(Bz r (X:=X) d).2=x:=congrArg Prod.snd e2'
  exact Aaa (congrArg (List.cons (Lf.row id)) a1) a2
 | .ptr id off::r,ls,d,h=>by
  simp only [Ti] at h
  obtain ⟨ls',h1,h2⟩:=A6 h
  obtain ⟨x,e1,e2⟩:=N1 (ps:=r) (d:=d) h2
  refine ⟨x,e1,?_⟩
  show (Lf.ptr id off::(Bz r d).1,(Bz r d).2)=_
  have e2':Bz r (X:=X) d=(ls',x):=e2
  rw [Bbx h1]
  have a1:(Bz r (X:=X) d).1=ls':=congrArg Prod.fst e2'
  have a2:(Bz r (X:=X) d).2=x:=congrArg Prod.snd e2'
  exact Aaa (congrArg (List.cons (Lf.ptr id off)) a1) a2
 | .sp id::r,ls,d,h=>by
  simp only [Ti] at h
  obtain ⟨ls',h1,h2⟩:=A6 h
  obtain ⟨x,e1,e2⟩:=N1 (ps:=r) (d:=d) h2
  refine ⟨x,e1,?_⟩
  show (Lf.sp id::(Bz r d).1,(Bz r d).2)=_
  have e2':Bz r (X:=X) d=(ls',x):=e2
  rw [Bes h1]
  have a1:(Bz r (X:=X) d).1=ls':=congrArg Prod.fst e2'
  have a2:(Bz r (X:=X) d).2=x:=congrArg Prod.snd e2'
  exact Aaa (congrArg (List.cons (Lf.sp id)) a1) a2
theorem Bet {p:Pv} {v:AV} {d:PvD p X} (h:Bgx k p v=some d):∃ x,k=some x∧g8 p d=(v,x):=by
 cases p with
 | dead=>
  obtain ⟨u,h1,h2⟩:=A6 h
  cases v<;>first | (cases h1; done) | skip
  exact ⟨d,h2,rfl⟩
 | lf p=>
  obtain ⟨l,h1,h2⟩:=A6 h
  have hv:v=.vl (.lf l):=by
   cases v with
   | vl w=>cases w with
    | lf l'=>cases h1; rfl
    | ag ls=>cases h1
   | dead=>cases h1
   | tp vs=>cases h1
   | fn f ls=>cases h1
  subst hv
  obtain ⟨x,e1,e2⟩:=N1 (ps:=[p]) (d:=d) h2
  refine ⟨x,e1,?_⟩
  show (Bgw (Bz [p] d).1,(Bz [p] d).2)=_
  have e2':Bz [p] (X:=X) d=([l],x):=e2
  have a1:(Bz [p] (X:=X) d).1=[l]:=congrArg Prod.fst e2'
  have a2:(Bz [p] (X:=X) d).2=x:=congrArg Prod.snd e2'
  exact Aaa (congrArg Bgw a1) a2
 | ag ps=>
  obtain ⟨l,h1,h2⟩:=A6 h
  have hv:v=.vl (.ag l):=by
   cases v with
   | vl w=>cases w with
    | lf l'=>cases h1
    | ag ls=>cases h1; rfl
   | dead=>cases h1
   | tp vs=>cases h1
   | fn f ls=>cases h1
  subst hv
  obtain ⟨x,e1,e2⟩:=N1 (ps:=ps) (d:=d) h2
  refine ⟨x,e1,?_⟩
  show (AV.vl (.ag (Bz ps d).1),(Bz ps d).2)=_
  have e2':Bz ps (X:=X) d=(l,x):=e2
  have a1:(Bz ps (X:=X) d).1=l:=congrArg Prod.fst e2'
  have a2:(Bz ps (X:=X) d).2=x:=congrArg Prod.snd e2'
  exact Aaa (congrArg (fun l=>AV.vl (.ag l)) a1) a2
 | fn f ps=>
  obtain ⟨l,h1,h2⟩:=A6 h
  have hv:v=.fn f l:=by
   cases v with
   | vl w=>cases h1
   | dead=>cases h1
   | tp vs=>cases h1
   | fn f' ls=>
    simp only [Bk7] at h1
    split at h1<;>cases h1
    rename_i hf
    rw [hf]
  subst hv
  obtain ⟨x,e1,e2⟩:=N1 (ps:=ps) (d:=d) h2
  refine ⟨x,e1,?_⟩
  show (AV.fn f (Bz ps d).1,(Bz ps d).2)=_
  have e2':Bz ps (X:=X) d=(l,x):=e2
  have a1:(Bz ps (X:=X) d).1=l:=congrArg Prod.fst e2'
  have a2:(Bz ps (X:=X) d).2=x:=congrArg Prod.snd e2'
  exact Aaa (congrArg (fun l=>AV.fn f l) a1) a2
theorem Beu {p:Pr} {v:Jw} {d:PrD p X} (h:Bjs k p v=some d):∃ x,k=some x∧Aaz p d=(v,x):=by
 cases p with
 | dead=>
  obtain ⟨u,h1,h2⟩:=A6 h
  cases v<;>first | (cases h1; done) | skip
  exact ⟨d,h2,rfl⟩
 | unborn=>
  obtain ⟨u,h1,h2⟩:=A6 h
  cases v<;>first | (cases h1; done) | skip
  exact ⟨d,h2,rfl⟩
 | box T ps=>
  obtain ⟨ls,h1,h2⟩:=A6 h
  have hv:v=.box T ls:=by
   unfold Bjq at h1
   split at h1
   ·split at h1<;>cases h1
    rename_i hT
    rw [hT]
   ·cases h1
  subst hv
  obtain ⟨x,e1,e2⟩:=N1 (ps:=ps) (d:=d) h2
  refine ⟨x,e1,?_⟩
  show (Jw.box T (Bz ps d).1,(Bz ps d).2)=_
  have e2':Bz ps (X:=X) d=(ls,x):=e2
  have a1:(Bz ps (X:=X) d).1=ls:=congrArg Prod.fst e2'
  have a2:(Bz ps (X:=X) d).2=x:=congrArg Prod.snd e2'
  exact Aaa (congrArg (Jw.box T) a1) a2
 | row e t=>
  obtain ⟨xs,h1,h2⟩:=A6 h
  obtain ⟨x,h3,h4⟩:=A6 h2
  have hv:v=.row e t xs:=by
   unfold A81 at h1
   split at h1
   ·split at h1
    ·rename_i he
     split at h1<;>cases h1
     rename_i ht
     subst he ht
     rfl
    ·cases h1
   ·cases h1
  subst hv
  have hd:d=(xs,x):=(Option.some.inj h4).symm
  subst hd
  exact ⟨x,h3,rfl⟩
 | last e t j=>
  obtain ⟨xs,h1,h2⟩:=A6 h
  obtain ⟨x,h3,h4⟩:=A6 h2
  have hv:v=.last e t xs.1 xs.2 j:=by
   unfold Bgy at h1
   split at h1
   ·split at h1
    ·rename_i he
     split at h1
     ·rename_i hj
      split at h1<;>cases h1
      rename_i ht
      subst he ht hj
      rfl
     ·cases h1
    ·cases h1
   ·cases h1
  subst hv
  have hd:d=(xs.1,xs.2,x):=(Option.some.inj h4).symm
  subst hd
  exact ⟨x,h3,rfl⟩
 | map t=>
  obtain ⟨xs,h1,h2⟩:=A6 h
  obtain ⟨x,h3,h4⟩:=A6 h2
  have hv:v=.map t xs:=by
   unfold Bjr at h1
   split at h1
   ·split at h1<;>cases h1
    rename_i ht
    subst ht
    rfl
   ·cases h1
  subst hv
  have hd:d=(xs,x):=(Option.some.inj h4).symm
  subst hd
  exact ⟨x,h3,rfl⟩
 | iter t=>
  obtain ⟨xs,h1,h2⟩:=A6 h
  obtain ⟨x,h3,h4⟩:=A6 h2
  have hv:v=.iter t xs.1 xs.2.1 xs.2.2:=by
   unfold Bgz at h1
   split at h1
   ·split at h1<;>cases h1
    rename_i ht
    subst ht
    rfl
   ·cases h1
  subst hv
  have hd:d=(xs.1,xs.2.1,xs.2.2,x):=(Option.some.inj h4).symm
  subst hd
  exact ⟨x,h3,rfl⟩
end
theorem Bdi {α:Type} {l:List α} {q:α×List α} (h:Bkh l=some q):l=q.1::q.2:=by
 cases l with
 | nil=>cases h
 | cons a r=>cases h; rfl
theorem A43 {X:Type} {k:Option X}:∀ {l:List (Nat×Pv)} {cs:List (Nat×AV)} {d:CsD l X},A82 k l cs=some d→∃ x,k=some x∧g9 l d=(cs,x)
 | [],cs,d,h=>by
  cases cs with
  | nil=>exact ⟨d,h,rfl⟩
  | cons l ls=>cases h
 | p::r,cs,d,h=>by
  simp only [A82] at h
  obtain ⟨q,h1,h2⟩:=A6 h
  rw [Bdi h1]
  have h2:(if q.1.1=p.1 then Bgx (A82 k r q.2) p.2 q.1.2 else none:Option (PvD p.2 (CsD r X)))=some d:=h2
  split at h2
  ·rename_i hi
   obtain ⟨y,e1,e2⟩:=Bet (d:=d) h2
   obtain ⟨x,e3,e4⟩:=A43 e1
   refine ⟨x,e3,?_⟩
   show ((p.1,(g8 p.2 d).1)::(g9 r (g8 p.2 d).2).1,(g9 r (g8 p.2 d).2).2)=_
   have e2':g8 p.2 (X:=CsD r X) d=(q.1.2,y):=e2
   have a1:(g8 p.2 (X:=CsD r X) d).1=q.1.2:=congrArg Prod.fst e2'
   have a2:(g8 p.2 (X:=CsD r X) d).2=y:=congrArg Prod.snd e2'
   have a3:g9 r (g8 p.2 (X:=CsD r X) d).2=(q.2,x):=(congrArg (g9 r) a2).trans e4
   have a4:(g9 r (g8 p.2 (X:=CsD r X) d).2).1=q.2:=congrArg Prod.fst a3
   have a5:(g9 r (g8 p.2 (X:=CsD r X) d).2).2=x:=congrArg Prod.snd a3
   have a6:(p.1,(g8 p.2 (X:=CsD r X) d).1)=q.1:=(Aaa hi.symm a1).trans rfl
   exact Aaa (congr (congrArg List.cons a6) a4) a5
  ·cases h2
theorem A44 {X:Type} {k:Option X}:∀ {l:List Pr} {rs:List Jw} {d:RsD l X},Bdh k l rs=some d→∃ x,k=some x∧Aef l d=(rs,x)
 | [],rs,d,h=>by
  cases rs with
  | nil=>exact ⟨d,h,rfl⟩
  | cons l ls=>cases h
 | p::r,rs,d,h=>by
  simp only [Bdh] at h
  obtain ⟨q,h1,h2⟩:=A6 h
  rw [Bdi h1]
  obtain ⟨y,e1,e2⟩:=Beu (d:=d) h2
  obtain ⟨x,e3,e4⟩:=A44 e1
  refine ⟨x,e3,?_⟩
  show ((Aaz p d).1::(Aef r (Aaz p d).2).1,(Aef r (Aaz p d).2).2)=_
  have e2':Aaz p (X:=RsD r X) d=(q.1,y):=e2
  have a1:(Aaz p (X:=RsD r X) d).1=q.1:=congrArg Prod.fst e2'
  have a2:(Aaz p (X:=RsD r X) d).2=y:=congrArg Prod.snd e2'
  have a3:Aef r (Aaz p (X:=RsD r X) d).2=(q.2,x):=(congrArg (Aef r) a2).trans e4
  have a4:(Aef r (Aaz p (X:=RsD r X) d).2).1=q.2:=congrArg Prod.fst a3
  have a5:(Aef r (Aaz p (X:=RsD r X) d).2).2=x:=congrArg Prod.snd a3
  exact Aaa (congr (congrArg List.cons a1) a4) a5
def Bdj:Lf→Bool
 | .c (.slice none 0 0)=>true
 | _=>false
def A45 (v:Vl) (i:Nat) (l:Lf):Vl:=match v with
 | .lf l0=>if i=0 then .lf l else .lf l0
 | .ag ls=>.ag (ls.set i l)
def A46 (ls:List Lf) (i:Nat):Bool:=match ls[i]? with
 | some l=>Bdj l
 | none=>false
def Bg0 (id:Nat) (ls:List Lf) (i:Nat):Bool:=match ls[i]? with
 | some (.c (.pointer none))=>true
 | some (.ptr j 0)=>Nat.beq j id
 | _=>false
def Bir (u:Bool) (t tt:Ty) (xs:List tt.D):Option (List (wrT u t).D):=if h:tt=wrT u t then some (h ▸ xs) else none
theorem A83 {u:Bool} {t tt:Ty} {xs:List tt.D} (h:Bir u t tt xs=some []):∃ e:tt=wrT u t,xs=e.symm ▸ ([]:List (wrT u t).D):=by
 unfold Bir at h
 split at h
 ·rename_i e
  subst e
  exact ⟨rfl,Option.some.inj h⟩
 ·cases h
def Ayk (s:St) (nid slot:Nat) (e1:TypeId) (u:Bool) (t:Ty):Option (St×Nat):=match s.cell slot with
 | .vl (.lf (.row id))=>match s.res id with
  | .row e tt xs=>match Bir u t tt xs,s.res nid,s.res (nid + 1) with
   | some [],.unborn,.unborn=>some (((Ei (s.setRes (nid + 1) (.row e1 t [])) (some id)).setRes nid (.last ⟨e,e1,u⟩ t [] false (nid + 1))).setCell slot (.vl (.lf (.row nid))),nid + 2)
   | _,_,_=>none
  | _=>some (s,nid)
 | _=>some (s,nid)
def A6r (s:St) (nid slot:Nat):Option (St×Nat):=match s.cell slot with
 | .vl (.lf (.row id))=>match s.res id with
  | .mid e t xs i j=>match s.res j with
   | .row ej tj ys=>if h:tj=t then (if ej=e.i then some ((s.setRes j .dead).setRes id (.last e t (List.set xs i (h ▸ ys)) false id),nid) else none) else none
   | _=>none
  | _=>some (s,nid)
 | _=>some (s,nid)
def Bby (s:St) (nid:Nat):Fx→Option (St×Nat)
 | .sl slot i t=>match s.cell slot with
  | .vl v=>if A46 v.ls i then some (s.setCell slot (.vl (A45 v i (.sl t []))),nid) else some (s.frz (v.ls[i]?).toList,nid)
  | _=>some (s,nid)
 | .row slot i e t=>match s.cell slot with
  | .vl v=>if A46 v.ls i then (match s.res nid with
   | .unborn=>some ((s.setRes nid (.row e t [])).setCell slot (.vl (A45 v i (.row nid))),nid + 1)
   | _=>none) else some (s,nid)
  | _=>some (s,nid)
 | .boxSl slot i t=>match s.cell slot with
  | .vl (.lf (.ptr id 0))=>match s.res id with
   | .box T ls=>if A46 ls i then some (s.setRes id (.box T (ls.set i (.sl t []))),nid) else some (s.frz (ls[i]?).toList,nid)
   | _=>some (s,nid)
  | _=>some (s,nid)
 | .boxRow slot i e t=>match s.cell slot with
  | .vl (.lf (.ptr id 0))=>match s.res id with
   | .box T ls=>if A46 ls i then (match s.res nid with
    | .unborn=>some ((s.setRes nid (.row e t [])).setRes id (.box T (ls.set i (.row nid))),nid + 1)
    | _=>none) else some (s,nid)
   | _=>some (s,nid)
  | _=>some (s,nid)
 | .self slot i=>match s.cell slot with
  | .vl (.lf (.ptr id 0))=>match s.res id with
   | .box T ls=>if Bg0 id ls i then some (s.setRes id (.box T (ls.set i (.sp id))),nid) else some (s,nid)
   | _=>some (s,nid)
  | _=>some (s,nid)
 | .last slot e1 t=>Ayk s nid slot e1 false t
 | .lastU slot e1 t=>Ayk s nid slot e1 true t
 | .back slot=>A6r s nid slot
def Bdk (s:St) (nid:Nat):List Fx→Option (St×Nat)
 | []=>some (s,nid)
 | f::r=>(Bby s nid f).bind fun p=>Bdk p.1 p.2 r
def Ayl:List (Nat×Pv)→List Nat
 | []=>[]
 | p::r=>p.1::Ayl r
def Bg1 (np:Nat) (live:List Nat) (s:St):Option (List (Nat×AV)×List Jw):=
 let us:=Ayi s np live
 if Vm us&&Ajk 0 np us then some (A6m s us live,A3e s us us) else none
def Da.mtch (np:Nat) (p:Da) (s:St) (nid:Nat):Option p.D:=
 (Bdk s nid p.fx).bind fun q=>(Bg1 np (Ayl p.cs) q.1).bind fun l=>A82 (Bdh (some ()) p.rs l.2) p.cs l.1
section
variable {P:Program} {n B:Nat} {Iq:List Nat} {s:St} {g:Gh} {a:Act} {w:World}
theorem Ajl {ls:List Lf} {i:Nat} (h:A46 ls i=true):ls[i]? = some (.c (.slice none 0 0)):=by
 unfold A46 at h
 split at h
 ·rename_i l hl
  unfold Bdj at h
  split at h
  ·exact hl
  ·cases h
 ·cases h
theorem Bdl {s':St} {g':Gh} {v:Vl} {i:Nat} {l:Lf} {u:Value} (hv:VlR s' g' w v u) (hn:v.ls[i]? = some (.c (.slice none 0 0))) (hl:Cx s' g' w l (.slice none 0 0)):VlR s' g' w (A45 v i l) u:=by
 cases v with
 | lf l0=>
  unfold A45
  simp only
  split
  ·rename_i hi
   subst hi
   simp [Vl.ls] at hn
   subst hn
   obtain ⟨h1,h2⟩:=hv
   have h1':u=.slice none 0 0:=h1
   subst h1'
   exact ⟨hl,rfl⟩
  ·exact hv
 | ag ls=>
  obtain ⟨cs,e1,e2⟩:=hv
  obtain ⟨v0,q1,q2,q3⟩:=e2.get hn
  have q2':v0=.slice none 0 0:=q2
  subst q2'
  refine ⟨cs,e1,?_⟩
  have hset:cs.toList.set i (.slice none 0 0)=cs.toList:=by
   apply List.ext_getElem?
   intro j
   by_cases q:i=j
   ·subst q
    rw [List.getElem?_set_self (List.getElem?_eq_some_iff.1 q1).1,q1]
   ·rw [List.getElem?_set_ne q]
  have:=e2.set (j:=i) (v:=.slice none 0 0) hl rfl
  rw [hset] at this
  exact this
theorem A47 (s:St) (g:Gh) (w:World) (t:Ty):Cx s g w (.sl t []) (.slice none 0 0):=⟨none,0,rfl,Nat.le_refl _,fun i x hx=>by simp [nth] at hx⟩
theorem Az3 (h:Bp n B Iq s g a w) {slot:Nat} {av:AV} (hv:c9 s g w av (a.tmps.getD slot undef)):Bp n B Iq (s.setCell slot av) g a w∧Go B Iq s g w (s.setCell slot av) g w:=by
 have hS:∀ b,Eg s g b→b < w.heap.size→Eg (s.setCell slot av) g b∧w.heap[b]? = w.heap[b]? := fun b hb _=>⟨hb,rfl⟩
 have hI:∀ id,Az s g (s.setCell slot av) g id:=fun id=>Az.same rfl rfl rfl
 refine ⟨h.step h.size h.defers (Nat.le_refl _) hS hI (fun i=>?_) (fun id=>.inl ⟨rfl,rfl,rfl,fun _ _=>rfl⟩) h.inj h.lt rfl (NK.alike h rfl),⟨Kp.refl B Iq w,hS,hI,rfl⟩⟩
 by_cases q:i=slot
 ·subst q
  right
  have:(s.setCell i av).cell i=av:=by simp [St.setCell]
  rw [this]
  exact c9.step hS hI hv
 ·exact .inl ⟨by simp [St.setCell,As _ _ q],rfl⟩
theorem Al8 (h:Bp n B Iq s g a w) {nid:Nat} (hf:s.res nid=.unborn) (e:TypeId) (t:Ty):
  ∃ g',Go B Iq s g w (s.setRes nid (.row e t [])) g' w∧Bp n B Iq (s.setRes nid (.row e t [])) g' a w∧Cx (s.setRes nid (.row e t [])) g' w (.row nid) (.slice none 0 0):=by
 have hS:∀ b,Eg s g b→b < w.heap.size→Eg (s.setRes nid (.row e t [])) ⟨K3 g.blk nid none,K3 g.hdr nid (.slice none 0 0),g.av,g.innL⟩ b∧w.heap[b]? = w.heap[b]? := by
  intro b hb _
  refine ⟨⟨hb.1,fun j hj hk=>?_,fun j hj=>hb.2.2 j (Ej rfl hj)⟩,rfl⟩
  by_cases q:j=nid
  ·subst q; simp at hk
  ·rw [Ak s _ q] at hj
   simp only [As _ _ q] at hk
   exact hb.2.1 j hj hk
 have hI:∀ j,Az s g (s.setRes nid (.row e t [])) ⟨K3 g.blk nid none,K3 g.hdr nid (.slice none 0 0),g.av,g.innL⟩ j:=by
  intro j
  by_cases q:j=nid
  ·subst q
   unfold Az
   rw [hf]
   exact .inr trivial
  ·exact Az.same (Ak s _ q) (by simp [As _ _ q]) (by simp [As _ _ q])
 refine ⟨_,⟨Kp.refl B Iq w,hS,hI,rfl⟩,h.step h.size h.defers (Nat.le_refl _) hS hI (fun i=>.inl ⟨rfl,rfl⟩) (fun j=>?_) (fun i j b hi hj=>?_) (fun i b hi=>?_) rfl (NK.same_world h (fun j=>Ej rfl) rfl fun j b hb=>by
  by_cases q:j=nid
  ·simp [q] at hb
  ·simp only [As _ _ q] at hb; exact ⟨j,hb⟩),?_⟩
 ·by_cases q:j=nid
  ·subst q
   right
   rw [Ai]
   refine ⟨[],⟨by simp,.inl ⟨by simp,rfl⟩⟩,Aga _ _,by simp [Value.ownBlock]⟩
  ·left
   exact ⟨Ak s _ q,by simp [As _ _ q],by simp [As _ _ q],fun _ _=>rfl⟩
 ·by_cases q1:i=nid
  ·simp [q1] at hi
  ·by_cases q2:j=nid
   ·simp [q2] at hj
   ·simp only [As _ _ q1] at hi
    simp only [As _ _ q2] at hj
    exact h.inj i j b hi hj
 ·by_cases q1:i=nid
  ·simp [q1] at hi
  ·simp only [As _ _ q1] at hi
   exact h.lt i b hi
 ·simp only [Cx,Ai,Al]
theorem Agn (h:Bp n B Iq s g a w) {id:Nat} {T:TypeId} {ls:List Lf} {i:Nat} {l0 l:Lf} (hr:s.res id=.box T ls) (hn:ls[i]? = some l0) (hl:∀ u,Cx s g w l0 u→Cx s g w l u):
  Bp n B Iq (s.setRes id (.box T (ls.set i l))) g a w∧Go B Iq s g w (s.setRes id (.box T (ls.set i l))) g w:=by
 have hS:∀ b,Eg s g b→b < w.heap.size→Eg (s.setRes id (.box T (ls.set i l))) g b∧w.heap[b]? = w.heap[b]? := by
  intro b hb _
  refine ⟨⟨hb.1,fun j hj hk=>?_,fun j hj=>hb.2.2 j (Ej rfl hj)⟩,rfl⟩
  by_cases q:j=id
  ·subst q
   exact hb.2.1 j (by rw [hr]; rfl) hk
  ·rw [Ak s _ q] at hj
   exact hb.2.1 j hj hk
 have hI:∀ j,Az s g (s.setRes id (.box T (ls.set i l))) g j:=by
  intro j
  by_cases q:j=id
  ·subst q
   unfold Az
   rw [hr,Ai]
   exact .inr ⟨_,_,rfl,rfl⟩
  ·exact Az.same (Ak s _ q) rfl rfl
 refine ⟨h.step h.size h.defers (Nat.le_refl _) hS hI (fun i=>.inl ⟨rfl,rfl⟩) (fun j=>?_) h.inj h.lt rfl (NK.same_world h (fun j=>Ej rfl) rfl fun id b q=>⟨id,q⟩),⟨Kp.refl B Iq w,hS,hI,rfl⟩⟩
 by_cases q:j=id
 ·subst q
  right
  rw [Ai]
  have r:=h.res j
  rw [hr] at r
  obtain ⟨b,cs,h1,h2,h3⟩:=r
  refine ⟨b,cs,h1,h2,I6.step hS hI ?_⟩
  obtain ⟨v0,q1,q2,q3⟩:=h3.get hn
  have hset:cs.toList.set i v0=cs.toList:=by
   apply List.ext_getElem?
   intro k
   by_cases q:i=k
   ·subst q
    rw [List.getElem?_set_self (List.getElem?_eq_some_iff.1 q1).1,q1]
   ·rw [List.getElem?_set_ne q]
  have:=h3.set (j:=i) (v:=v0) (hl v0 q2) q3
  rw [hset] at this
  exact this
 ·exact .inl ⟨Ak s _ q,rfl,rfl,fun _ _=>rfl⟩
theorem Az4 (h:Bp n B Iq s g a w) {id:Nat} {T:TypeId} {ls:List Lf} {i:Nat} {l:Lf} (hr:s.res id=.box T ls) (hn:ls[i]? = some (.c (.slice none 0 0))) (hl:Cx s g w l (.slice none 0 0)):
  Bp n B Iq (s.setRes id (.box T (ls.set i l))) g a w∧Go B Iq s g w (s.setRes id (.box T (ls.set i l))) g w:=
 Agn h hr hn fun u hu=>by
  have hu:u=.slice none 0 0:=hu
  subst hu
  exact hl
theorem Az5 (h:Bp n B Iq s g a w) {nid slot:Nat} {e1:TypeId} {u:Bool} {t:Ty} {s':St} {nid':Nat} (e:Ayk s nid slot e1 u t=some (s',nid')):∃ g',Bp n B Iq s' g' a w∧Go B Iq s g w s' g' w:=by
 have stay:some (s,nid)=some (s',nid')→∃ g',Bp n B Iq s' g' a w∧Go B Iq s g w s' g' w:=fun q=>by cases q; exact ⟨g,h,Go.refl B Iq s g w⟩
 unfold Ayk at e
 split at e
 ·rename_i id hv
  split at e
  ·rename_i e0 tt xs hr
   split at e
   ·rename_i _ _ hys hf hf1
    cases e
    obtain ⟨htt,hxs⟩:=A83 hys
    subst htt
    subst hxs
    obtain ⟨g1,k1,k2,k3⟩:=Al8 h hf1 e1 t
    have hid1:id≠nid + 1:=fun q=>by rw [q,hf1] at hr; cases hr
    have hid0:id≠nid:=fun q=>by rw [q,hf] at hr; cases hr
    have hr1:(s.setRes (nid + 1) (.row e1 t [])).res id=.row e0 (wrT u t) []:=(Ak s _ hid1).trans hr
    have hf0:(s.setRes (nid + 1) (.row e1 t [])).res nid=.unborn:=(Ak s _ (by omega)).trans hf
    have r:=k2.res id
    rw [hr1] at r
    obtain ⟨cs,q1,q2,q3⟩:=r
    have q1:Hr w (.sl t) 0 e0 1 (g1.hdr id) 0 cs:=by
     refine (E4 (t:=.sl t) rfl).2 ?_
     have:=(E4 (Ba5 u t)).1 q1
     rw [Ayx] at this
     exact this
    have hc:=k2.cell slot
    have hv1:(s.setRes (nid + 1) (.row e1 t [])).cell slot=.vl (.lf (.row id)):=hv
    rw [hv1] at hc
    obtain ⟨hc1,hc2⟩:=hc
    simp only [Cx,hr1] at hc1
    obtain ⟨m1,m2,m3,m4⟩:=k2.growR (o:=some id) hf0 (v:=g1.hdr id) (v':=g1.hdr id) (w':=w) (r:=.last ⟨e0,e1,u⟩ t [] false (nid + 1)) (I:=[]) (fun j q=>by
     cases q
     exact ⟨by rw [hr1]; rfl,rfl,q3⟩) (fun q=>by cases q) (World.grownBy.refl w _) (.inl rfl) (fun b hb=>(k2.lt id b (q3.trans hb)).1) (fun _ b hb=>by cases hb) (fun hS _=>by
     refine ⟨cs,?_,?_,?_,fun u hq=>by cases hq⟩
     ·have e1:(g1.mv (some id) nid (g1.hdr id)).hdr nid=g1.hdr id:=by simp [Gh.mv]
      rw [e1]
      exact q1
     ·exact ⟨fun i x u hx=>(by cases hx),fun i _ _ _ _ hx=>absurd hx (Nat.not_lt_zero _)⟩
     ·simp [Gh.mv])
    have hcell:c9 ((Ei (s.setRes (nid + 1) (.row e1 t [])) (some id)).setRes nid (.last ⟨e0,e1,u⟩ t [] false (nid + 1))) (g1.mv (some id) nid (g1.hdr id)) w (.vl (.lf (.row nid))) (a.tmps.getD slot undef):=by
     refine ⟨?_,hc2⟩
     simp only [Cx,Ai]
     rw [hc1]
     simp [Gh.mv]
    obtain ⟨c1,c2⟩:=Az3 m3 (slot:=slot) hcell
    exact ⟨_,c1,k1.trans (Go.trans ⟨m4,m1,m2,rfl⟩ c2)⟩
   ·cases e
  ·exact stay e
 ·exact stay e
theorem Bbz (h:Bp n B Iq s g a w) {nid slot:Nat} {s':St} {nid':Nat} (e:A6r s nid slot=some (s',nid')):∃ g',Bp n B Iq s' g' a w∧Go B Iq s g w s' g' w:=by
 have stay:some (s,nid)=some (s',nid')→∃ g',Bp n B Iq s' g' a w∧Go B Iq s g w s' g' w:=fun q=>by cases q; exact ⟨g,h,Go.refl B Iq s g w⟩
 unfold A6r at e
 split at e
 ·rename_i id hv
  split at e
  ·rename_i e0 t xs i j hr
   split at e
   ·rename_i ej tj ys hj
    split at e
    ·rename_i ht
     split at e<;>cases e
     rename_i he
     subst ht
     subst he
     obtain ⟨k1,k2⟩:=Bie h hr hj id
     exact ⟨_,k2,k1⟩
    ·cases e
   ·cases e
  ·exact stay e
 ·exact stay e
theorem Bis (h:Bp n B Iq s g a w) {nid:Nat} {f:Fx} {s':St} {nid':Nat} (e:Bby s nid f=some (s',nid')):∃ g',Bp n B Iq s' g' a w∧Go B Iq s g w s' g' w:=by
 have fz:∀ ls,some (s.frz ls,nid)=some (s',nid')→∃ g',Bp n B Iq s' g' a w∧Go B Iq s g w s' g' w:=fun ls q=>by
  cases q
  obtain ⟨g',k1,k2,_⟩:=I7 (ls:=ls) h
  exact ⟨g',k1,k2⟩
 have stay:some (s,nid)=some (s',nid')→∃ g',Bp n B Iq s' g' a w∧Go B Iq s g w s' g' w:=fun q=>by cases q; exact ⟨g,h,Go.refl B Iq s g w⟩
 cases f with
 | sl slot i t=>
  simp only [Bby] at e
  split at e
  ·rename_i v hv
   split at e
   ·rename_i hn
    cases e
    have k:=h.cell slot
    rw [hv] at k
    exact ⟨g,Az3 h (av:=.vl (A45 v i (.sl t []))) (Bdl (w:=w) k (Ajl hn) (A47 s g w t))⟩
   ·exact fz _ e
  ·exact stay e
 | row slot i e0 t=>
  simp only [Bby] at e
  split at e
  ·rename_i v hv
   split at e
   ·rename_i hn
    split at e
    ·rename_i hf
     cases e
     obtain ⟨g',k1,k2,k3⟩:=Al8 h hf e0 t
     have k:=k2.cell slot
     have hc:(s.setRes nid (.row e0 t [])).cell slot=.vl v:=hv
     rw [hc] at k
     obtain ⟨r1,r2⟩:=Az3 k2 (av:=.vl (A45 v i (.row nid))) (Bdl (w:=w) k (Ajl hn) k3)
     exact ⟨g',r1,k1.trans r2⟩
    ·cases e
   ·exact stay e
  ·exact stay e
 | boxSl slot i t=>
  simp only [Bby] at e
  split at e
  ·rename_i id hv
   split at e
   ·rename_i T ls hr
    split at e
    ·rename_i hn
     cases e
     exact ⟨g,Az4 h hr (Ajl hn) (A47 s g w t)⟩
    ·exact fz _ e
   ·exact stay e
  ·exact stay e
 | boxRow slot i e0 t=>
  simp only [Bby] at e
  split at e
  ·rename_i id hv
   split at e
   ·rename_i T ls hr
    split at e
    ·rename_i hn
     split at e
     ·rename_i hf
      cases e
      obtain ⟨g',k1,k2,k3⟩:=Al8 h hf e0 t
      have hne:id≠nid:=by rintro rfl; rw [hf] at hr; cases hr
      have hr':(s.setRes nid (.row e0 t [])).res id=.box T ls:=by rw [Ak s _ hne]; exact hr
      obtain ⟨r1,r2⟩:=Az4 k2 hr' (Ajl hn) k3
      exact ⟨g',r1,k1.trans r2⟩
     ·cases e
    ·exact stay e
   ·exact stay e
  ·exact stay e
 | self slot i=>
  simp only [Bby] at e
  split at e
  ·rename_i id hv
   split at e
   ·rename_i T ls hr
    split at e
    ·rename_i hn
     cases e
     unfold Bg0 at hn
     split at hn
     ·rename_i hg
      refine ⟨g,Agn h hr hg fun u hu=>?_⟩
      simp only [Cx] at hu ⊢
      rw [hr]
      exact .inl hu
     ·rename_i j hg
      have hj:=Nat.eq_of_beq_eq_true hn
      subst hj
      refine ⟨g,Agn h hr hg fun u hu=>?_⟩
      simp only [Cx] at hu ⊢
      rw [hr] at hu ⊢
      exact .inr hu
     ·cases hn
    ·exact stay e
   ·exact stay e
  ·exact stay e
 | last slot e1 t=>exact Az5 h e
 | lastU slot e1 t=>exact Az5 h e
 | back slot=>exact Bbz h e
theorem A84:∀ {fx:List Fx} {s:St} {g:Gh} {nid:Nat} {s':St} {nid':Nat},Bp n B Iq s g a w→Bdk s nid fx=some (s',nid')→∃ g',Bp n B Iq s' g' a w∧Go B Iq s g w s' g' w
 | [],s,g,nid,s',nid',h,e=>by cases e; exact ⟨g,h,Go.refl B Iq s g w⟩
 | f::r,s,g,nid,s',nid',h,e=>by
  simp only [Bdk] at e
  obtain ⟨p,e1,e2⟩:=A6 e
  obtain ⟨g1,k1,k2⟩:=Bis h (s':=p.1) (nid':=p.2) e1
  obtain ⟨g2,k3,k4⟩:=A84 k1 e2
  exact ⟨g2,k3,k2.trans k4⟩
theorem Bit (h:Bp n B Iq s g a w) {np nid:Nat} {p:Da} {d:p.D} (e:p.mtch np s nid=some d):
  ∃ s1 g1 g',Go B Iq s g w s1 g1 w∧Bp n B Iq (p.st d) g' a w∧g'.av=g1.av∧∀ id,id < np→((p.st d).res id=.unborn→s1.res id=.unborn)∧(∀ T ls,(p.st d).res id=.box T ls→(∃ T' ls',s1.res id=.box T' ls')∧g'.blk id=g1.blk id)∧(∀ e,∀ t:Ty,∀ xs:List t.D,(p.st d).res id=.row e t xs→(∃ e',∃ xs':List t.D,s1.res id=.row e' t xs')∧g'.blk id=g1.blk id∧g'.hdr id=g1.hdr id)∧(((p.st d).res id).nst=true→(s1.res id).nst=true∧g'.blk id=g1.blk id∧g'.hdr id=g1.hdr id):=by
 unfold Da.mtch at e
 obtain ⟨q,e1,e⟩:=A6 e
 obtain ⟨l,e2,e⟩:=A6 e
 obtain ⟨y,e3,e4⟩:=A43 e
 obtain ⟨z,e5,e6⟩:=A44 e3
 obtain ⟨g1,k1,k2⟩:=A84 h (s':=q.1) (nid':=q.2) e1
 have hst:p.st d=A80 l.1 l.2:=by
  unfold Da.st
  have e4':g9 p.cs (X:=RsD p.rs Unit) d=(l.1,y):=e4
  have a2:(g9 p.cs (X:=RsD p.rs Unit) d).2=y:=congrArg Prod.snd e4'
  have a3:Aef p.rs (g9 p.cs (X:=RsD p.rs Unit) d).2=(l.2,z):=(congrArg (Aef p.rs) a2).trans e6
  exact congr (congrArg A80 (congrArg Prod.fst e4')) (congrArg Prod.fst a3)
 have hc:canon np (Ayl p.cs) q.1=some (A80 l.1 l.2,(Ayi q.1 np (Ayl p.cs)).length):=by
  unfold Bg1 at e2
  unfold canon
  dsimp only at e2 ⊢
  split at e2
  ·rename_i hq
   rw [if_pos hq]
   cases e2
   rfl
  ·cases e2
 obtain ⟨g',r1,r2,r3⟩:=Bgv k1 hc
 rw [hst]
 exact ⟨q.1,g1,g',k2,r1,r2,r3⟩
end
end
section
theorem A85 (p:prD):∀ l:List prD,(Av1 p l).length=l.length + 1
 | []=>rfl
 | q::r=>by
  simp only [Av1]
  cases ltK q p with
  | true=>simp only [cond_true,List.length_cons,A85 p r]
  | false=>rfl
theorem Aa0:∀ l:List prD,(Rd l).length=l.length
 | []=>rfl
 | p::r=>by show (Av1 p (Rd r)).length=r.length + 1; rw [A85,Aa0 r]
structure A48 where
 pre:List Oper
 o2:Oper
 o3:Oper
 o4:Oper
 V:TypeId
 z:Operand
 d2:Nat
 d3:Nat
 fs:FuncId
def Aym (o2 o3 o4:Oper):Option (TypeId×Operand×Nat×Nat×FuncId):=match o2.op,o2.dst,o2.guard,o3.dst,o3.guard,Rc o4,o4.guard with
 | .makeInterface V z,some d2,none,some d3,none,some (fs,[.tmp p,.tmp q]),none=>if p=d2 then (if q=d3 then (if d2=d3 then none else some (V,z,d2,d3,fs)) else none) else none
 | _,_,_,_,_,_,_=>none
def Xp:List Oper→Option A48
 | [o0,o1,o2,o3,o4]=>match Aym o2 o3 o4 with
  | some (V,z,d2,d3,fs)=>some ⟨[o0,o1],o2,o3,o4,V,z,d2,d3,fs⟩
  | none=>none
 | _=>none
def Bg2:AV→Option (FuncId×Nat)
 | .fn fc [.ptr b 0]=>some (fc,b)
 | _=>none
def Az6 (BT:TypeId):Jw→Option Nat
 | .box T [.row r]=>if T=BT then some r else none
 | _=>none
def A6s:Option Lf→Option Nat
 | some (.row r)=>some r
 | _=>none
def Bjt (P:Program) (T:Tb) (n:Nat) (s:St) (nid:Nat) (q:A48):Option (List Bool×St):=match T.srt with
 | some (fs,fc,BT,U,e)=>match A6s (s.leaf q.z) with
  | some r=>match X3 P T (s.put n q.o2.dst .dead) nid q.o3 with
   | some (av,s3)=>match Bg2 av with
    | some (fc',b)=>match Az6 BT (s3.res b),A81 e prT (s3.res r) with
     | some r',some xs=>if A4q P q.V=true then (if fs=q.fs then (if fc'=fc then (if q.V=U then (if r'=r then (if q.d2 < n then (if q.d3 < n then some ([E6 xs,decide (xs.length≤1000)],((s3.put n q.o3.dst av).setRes r (.row e prT (Rd xs))).put n q.o4.dst (.tp [])) else none) else none) else none) else none) else none) else none) else none
     | _,_=>none
    | none=>none
   | none=>none
  | none=>none
 | none=>none
theorem Bb0 {e:TypeId} {t:Ty} {v:Jw} {xs:List t.D} (h:A81 e t v=some xs):v=.row e t xs:=by
 unfold A81 at h
 split at h
 ·split at h
  ·rename_i he
   split at h
   ·rename_i ht
    cases h
    subst he ht
    rfl
   ·cases h
  ·cases h
 ·cases h
section
variable {P:Program} {n B:Nat} {Iq:List Nat} {s:St} {g:Gh} {a:Act} {w:World}
theorem A6t {o2 o3 o4:Oper} {V:TypeId} {z:Operand} {d2 d3:Nat} {fs:FuncId} (h:Aym o2 o3 o4=some (V,z,d2,d3,fs)):
  o2.op=.makeInterface V z∧o2.dst=some d2∧o2.guard=none∧o3.dst=some d3∧o3.guard=none∧Rc o4=some (fs,[.tmp d2,.tmp d3])∧o4.guard=none∧d2≠d3:=by
 unfold Aym at h
 split at h
 ·rename_i h1 h2 h3 h4 h5 h6 h7
  split at h
  ·rename_i e1
   split at h
   ·rename_i e2
    split at h
    ·cases h
    ·rename_i e3
     cases h
     subst e1 e2
     exact ⟨h1,h2,h3,h4,h5,h6,h7,e3⟩
   ·cases h
  ·cases h
 ·cases h
theorem Bdm {a:Act} {d:Nat} {v:Value} (h:d < a.tmps.size):(a.put (some d) v).tmps.getD d undef=v:=by
 simp [Act.put,Array.getD_eq_getD_getElem?,h]
theorem Bb1 {a:Act} {d i:Nat} {v:Value} (h:i≠d):(a.put (some d) v).tmps.getD i undef=a.tmps.getD i undef:=by
 simp [Act.put,Array.getD_eq_getD_getElem?,Array.getElem?_setIfInBounds,h.symm]
theorem Bev (h:Bp n B Iq s g a w) {fs fc:FuncId} {BT U e:TypeId} (hok:A6i P fs fc BT U e) {b r:Nat} {xs:List prD} {bb:Nat} (hb:g.blk b=some bb) (hbox:s.res b=.box BT [.row r]) (hrow:s.res r=.row e prT xs)
  (hnd:E6 xs=true) (hlen:xs.length≤1000):Ajj P fs #[.iface U (g.hdr r),.func (.func fc) #[] #[.pointer (some ⟨bb,0,none⟩)]] n B Iq s g a w (.tp []) (s.setRes r (.row e prT (Rd xs))):=by
 have kb:=h.res b
 rw [hbox] at kb
 obtain ⟨bb',ccs,hb',hh,hL⟩:=kb
 obtain rfl:bb=bb':=Option.some.inj (hb.symm.trans hb')
 have kr:=h.res r
 rw [hrow] at kr
 obtain ⟨cs,o1,o2,o3⟩:=kr
 obtain ⟨v0,hcs⟩:∃ v0,ccs=#[v0]:=by
  have:=hL.length
  match ccs,this with
  | ⟨[x]⟩,_=>exact ⟨x,rfl⟩
 subst hcs
 have hv0:v0=g.hdr r:=by
  have:=hL.1.1
  simp only [Cx,hrow] at this
  exact this
 subst hv0
 have hbr:b≠r:=fun q=>by rw [q,hrow] at hbox; cases hbox
 have hne:(g.hdr r).ownBlock≠some bb:=by
  rw [← o3]
  intro q
  exact hbr (h.inj b r bb hb q)
 have hlive:(s.res r).live=true:=by rw [hrow]; rfl
 refine Calls.mono (hok w bb (g.hdr r) xs cs hnd hlen (h.lt b bb hb).1 hh o1 (o2.imp fun _ _ _=>trivial) hne) fun en w'=>?_
 rintro ⟨rfl,hk,cs',p1,p2⟩
 have hmem:∀ c,c∈(g.hdr r).ownBlock.toList→g.blk r=some c:=fun c hc=>by
  simp only [Option.mem_toList] at hc
  rw [o3]; exact hc
 have hS:∀ c,Eg s g c→c < w.heap.size→Eg (s.setRes r (.row e prT (Rd xs))) g c∧w'.heap[c]? = w.heap[c]? := by
  intro c hc hc'
  refine ⟨⟨hc.1,fun j hj=>?_,fun j hj=>hc.2.2 j (Ej rfl hj)⟩,hk.block c hc' (fun q=>hc.2.1 r hlive (hmem c q))⟩
  by_cases q:j=r
  ·rw [q]; exact hc.2.1 r hlive
  ·rw [Ak s _ q] at hj; exact hc.2.1 j hj
 have hI:∀ j,Az s g (s.setRes r (.row e prT (Rd xs))) g j:=by
  intro j
  by_cases q:j=r
  ·subst q
   unfold Az
   rw [hrow]
   exact .inr (.inl ⟨_,_,Ai _ _ _,Aa0 xs,rfl,rfl⟩)
  ·exact Az.same (Ak s _ q) rfl rfl
 refine ⟨.tuple #[],g,rfl,⟨hk.toKp h.base (fun c hc=>(h.lt r c (hmem c hc)).2.1),hS,hI,rfl⟩,?_,⟨#[],rfl,rfl,fun j v hv=>by simp at hv⟩⟩
 refine h.step h.size h.defers hk.size hS hI (fun i=>.inl ⟨rfl,rfl⟩) (fun j=>?_) h.inj (fun i c hi=>⟨Nat.lt_of_lt_of_le (h.lt i c hi).1 hk.size,(h.lt i c hi).2⟩) rfl (NK.of h hk.size (fun j c h1 h2=>⟨Ej rfl h1,h2⟩) (fun _ _=>rfl) (fun c hc hno=>hk.block c hc fun q=>hno r (hmem c q)) fun j c hj=>.inl ⟨j,hj⟩)
 by_cases q:j=r
 ·subst q
  right
  rw [Ai]
  exact ⟨cs',(show w'.ownsRow 0 e 2 (g.hdr j) (List.length (α:=prD) (Rd xs)) cs' by rw [Aa0]; exact p1),p2 _,o3⟩
 ·exact .inl ⟨Ak s _ q,rfl,rfl,fun c hc=>hk.block c (h.lt j c hc).1 (fun q2=>q (h.inj j r c hc (hmem c q2)))⟩
end
end
end Go.Proofs.YtjokieaajjmoeaaGreat.R
end
