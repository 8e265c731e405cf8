/- Calls that are entered in place, function values, and the two library functions that a builder needs. No condition. -/
import Derived.Test.YtfkefgbihlfjmaaGreatRStepD
namespace Go.Proofs.YtfkefgbihlfjmaaGreat.R
open Go Go.RowKit
set_option linter.unusedVariables false
set_option linter.unusedSimpArgs false
def Nh (o:Oper):Option (FuncId×List Operand):=match o.op with
 | .call c=>match c.callee with
  | .value (.func f)=>some (f,c.args.toList)
  | _=>none
 | _=>none
def Ack (s:St) (o:Oper):Option (FuncId×List Operand×List Lf):=match o.op with
 | .call c=>match c.callee with
  | .value (.tmp t)=>match s.cell t with
   | .fn f ls=>some (f,c.args.toList,ls)
   | _=>none
  | _=>none
 | _=>none
def Th (s:St):List Operand→Option (List Vl)
 | []=>some []
 | x::r=>(s.value x).bind fun v=>(Th s r).bind fun vs=>some (v::vs)
def A2q:List Lf→List Vl
 | []=>[]
 | l::r=>.lf l::A2q r
structure Tb where
 sd:FuncId→Option SD
 inl:FuncId→Option Func
 cc:Option (FuncId×TypeId)
 st:Option (FuncId×TypeId×TypeId)
 srt:Option (FuncId×FuncId×TypeId×TypeId×TypeId)
def Tb.of (sd:FuncId→Option SD):Tb:=⟨sd,fun _=>none,none,none,none⟩
def Ep (xs:List Int):Bool:=xs.all fun x=>decide (0≤x)&&decide (x < 256)
def A4v (P:Program) (T:TypeId) (f:FuncId):Prop:=∀ (w:World) (b:Nat) (v:Value),
 (w.heap[b]?=some (.cells #[.pointer none,v] T (0,0))→Calls P f #[.pointer (some ⟨b,0,none⟩)] w fun e w'=>e=.returned (.tuple #[])∧Jr [b] w w'∧w'.heap[b]?=some (.cells #[.pointer (some ⟨b,0,none⟩),v] T (0,0)))∧
 (w.heap[b]?=some (.cells #[.pointer (some ⟨b,0,none⟩),v] T (0,0))→Calls P f #[.pointer (some ⟨b,0,none⟩)] w fun e w'=>e=.returned (.tuple #[])∧Jr [] w w')
def A4w (P:Program) (T e:TypeId) (f:FuncId):Prop:=∀ (w:World) (b:Nat) (p v:Value) (xs:List Int) (cs:List Value),
 Ep xs=true→w.heap[b]?=some (.cells #[p,v] T (0,0))→w.ownsRow 0 e 1 v xs.length cs→H8 w (fun _=>True) (.int .u8) xs cs→v.ownBlock≠some b→
  Calls P f #[.pointer (some ⟨b,0,none⟩)] w fun e w'=>e=.returned (.string (strOfNums xs))∧Jr v.ownBlock.toList w w'
abbrev prT:Ty:=.pair .str (.pair .str .unit)
abbrev prD:=ByteArray×ByteArray×Unit
def ltK (a b:prD):Bool:=Op.bytesLess a.1.toList b.1.toList
def Akm (p:prD):List prD→List prD
 | []=>[p]
 | q::r=>bif ltK q p then q::Akm p r else p::q::r
def U8 (l:List prD):List prD:=l.foldr Akm []
def Io:List prD→Bool
 | []=>true
 | p::r=>!(r.any fun q=>q.1.toList==p.1.toList)&&Io r
def A0i (P:Program) (fs fc:FuncId) (BT U e:TypeId):Prop:=∀ (w:World) (b:Nat) (v:Value) (xs:List prD) (cs:List Value),
 Io xs=true→xs.length≤1000→b < w.heap.size→w.heap[b]?=some (.cells #[v] BT (0,0))→w.ownsRow 0 e 2 v xs.length cs→H8 w (fun _=>True) prT xs cs→v.ownBlock≠some b→
  Calls P fs #[.iface U v,.func (.func fc) #[] #[.pointer (some ⟨b,0,none⟩)]] w fun en w'=>en=.returned (.tuple #[])∧Jr v.ownBlock.toList w w'∧∃ cs',w'.ownsRow 0 e 2 v xs.length cs'∧∀ S,H8 w' S prT (U8 xs) cs'
structure A2 (P:Program) (T:Tb):Prop where
 sd:∀ f sd,T.sd f=some sd→J6 P f∧Yz P f sd.sg sd.den
 inl : ∀ f fn, T.inl f = some fn → P.funcs[f]? = some fn ∧ (fn.name == "runtime.NumGoroutine") = false ∧ fn.body.isNone = false
 cc:∀ f BT,T.cc=some (f,BT)→J6 P f∧A4v P BT f
 st:∀ f BT e,T.st=some (f,BT,e)→J6 P f∧A4w P BT e f
 srt:∀ fs fc BT U e,T.srt=some (fs,fc,BT,U,e)→J6 P fs∧A0i P fs fc BT U e
theorem A2.of {P:Program} {sd:FuncId→Option SD} (h:∀ f d,sd f=some d→J6 P f∧Yz P f d.sg d.den):A2 P (Tb.of sd):=
 ⟨h,fun _ _ q=>(by cases q),fun _ _ q=>(by cases q),fun _ _ _ q=>(by cases q),fun _ _ _ _ _ q=>(by cases q)⟩
def A4x (T:Tb) (f:FuncId) (BT:TypeId):Bool:=match T.cc with
 | some (f',B')=>Nat.beq f' f&&Nat.beq B' BT
 | none=>false
def A5r (T:Tb) (f:FuncId) (BT:TypeId):Option TypeId:=match T.st with
 | some (f',B',e)=>bif Nat.beq f' f&&Nat.beq B' BT then some e else none
 | none=>none
def ccD (s:St) (id:Nat) (BT:TypeId) (l0 l1:Lf):Cd:=match l0 with
 | .c (.pointer none)=>some ([],.tp [],s.setRes id (.box BT [.ptr id 0,l1]))
 | .ptr j 0=>if j=id then some ([],.tp [],s) else none
 | .sp j=>if j=id then some ([],.tp [],s.setRes id (.box BT [.ptr id 0,l1])) else none
 | _=>none
def A0j (T:Tb) (s:St) (f:FuncId) (vs:List Vl):Cd:=match vs with
 | [.lf (.ptr id 0)]=>match s.res id with
  | .box BT [l0,l1]=>bif A4x T f BT then ccD s id BT l0 l1 else (match A5r T f BT with
   | some e=>(U1 s ⟨e,.int .u8,[],0⟩ l1).bind fun p=>some ([Ep p.2],.vl (.lf (.c (.string (strOfNums p.2)))),Fe s p.1)
   | none=>none)
  | _=>none
 | _=>none
def Aq5 (s:St) (vs:List Vl):St:=⟨fun i=>match vs[i]? with | some v=>.vl v | none=>.dead,s.res⟩
def A0k (P:Program) (T:Tb) (s:St) (nid:Nat) (o:Oper):Cd:=match Nh o with
 | some (f,xs)=>match Th s xs with
  | some vs=>A0j T s f vs
  | none=>none
 | none=>U7 P s nid o
def St.put (n:Nat) (s:St) (d:Option Tmp) (av:AV):St:=match d with
 | some d=>if Nat.blt d n then s.setCell d av else s
 | none=>s
def A38 (s:St) (nid:Nat):Nat:=match s.res nid with
 | .unborn=>nid
 | _=>nid + 1
def A2r (P:Program) (T:Tb) (n:Nat):List Oper→Nat→St→Option (List Bool×St)
 | [],_,s=>some ([],s)
 | o::r,nid,s=>match o.guard with
  | some _=>none
  | none=>match A0k P T s nid o with
   | some (cs,av,s')=>match A2r P T n r (A38 s' nid) (s'.put n o.dst av) with
    | some (cs',s'')=>some (cs++cs',s'')
    | none=>none
   | none=>none
def Anp (P:Program) (T:Tb) (n:Nat):Code→Nat→St→Option (List Bool×Bool×St)
 | .skip,_,s=>some ([],false,s)
 | .region _ ops draw,nid,s=>bif draw then none else match A2r P T n ops.toList nid s with
  | some (cs,s')=>some (cs,false,s')
  | none=>none
 | .seq a b,nid,s=>match Anp P T n a nid s with
  | some (cs,true,s')=>some (cs,true,s')
  | some (cs,false,s')=>match Anp P T n b (A38 s' nid) s' with
   | some (cs',r,s'')=>some (cs++cs',r,s'')
   | none=>none
  | none=>none
 | .cond c a b,nid,s=>match s.conc c with
  | some (.bool true)=>Anp P T n a nid s
  | some (.bool false)=>Anp P T n b nid s
  | _=>none
 | .ret,_,s=>some ([],true,s)
 | _,_,_=>none
def Pc (P:Program) (s:St):List ResultVar→Option (List Vl)
 | []=>some []
 | .tmp t::r=>match s.cell t with
  | .vl v=>(Pc P s r).map (v::·)
  | _=>none
 | .cell a t::r=>match Aj0 P s t (.tmp a) with
  | some v=>(Pc P s r).map (v::·)
  | none=>none
def A2s (P:Program) (T:Tb) (fn:Func) (vs:List Vl) (s:St) (nid:Nat):Cd:=match fn.body with
 | none=>none
 | some c=>bif Nat.ble vs.length fn.ntmps then (match Anp P T fn.ntmps c nid (Aq5 s vs) with
  | some (cs,_,s')=>match Pc P s' fn.results.toList with
   | some vs'=>some (cs,Avh vs',⟨s.cell,s'.res⟩)
   | none=>none
  | none=>none) else none
def Rg (P:Program) (T:Tb) (s:St) (nid:Nat) (o:Oper):Option (AV×St):=match Nh o with
 | some (f,xs)=>match Th s xs with
  | some vs=>match T.sd f with
   | some sd=>Aaf sd.sg sd.den s nid vs
   | none=>match T.inl f with
    | some fn=>Ml (A2s P T fn vs s nid)
    | none=>Ml (A0j T s f vs)
  | none=>none
 | none=>match Ack s o with
  | some (f,xs,ls)=>match Th s xs with
   | some vs=>match T.sd f with
    | some sd=>Aaf sd.sg sd.den s nid (vs++A2q ls)
    | none=>none
   | none=>none
  | none=>Ml (U7 P s nid o)
section
variable {P:Program} {n B:Nat} {Iq:List Nat} {s:St} {g:Gh} {a:Act} {w:World}
theorem i8 (h:B8 n B Iq s g a w):∀ {xs:List Operand} {vs:List Vl},Th s xs=some vs→VLR s g w vs (xs.map a.eval)
 | [],vs,e=>by cases e; trivial
 | x::r,vs,e=>by
  simp only [Th] at e
  obtain ⟨v,e1,e⟩:=Option.bind_eq_some_iff.1 e
  obtain ⟨vs',e2,e⟩:=Option.bind_eq_some_iff.1 e
  cases e
  exact ⟨Wj h e1,i8 h e2⟩
theorem Acl {f:FuncId} (hc:J6 P f) (args:Array Value):(callFunc f args).run P w=.ok (.enter f args) w:=by
 obtain ⟨fn,h1,h2,h3⟩:=hc
 simp only [callFunc,Sem.run_bind,run_program,Result.andThen_ok,h1,h2,h3,Bool.false_eq_true,if_false]
 rfl
def i9 (P:Program) (f:FuncId) (args:Array Value) (n B:Nat) (Iq:List Nat) (s:St) (g:Gh) (a:Act) (w:World) (av:AV) (s':St):Prop:=
 Calls P f args w fun e w'=>∃ v g',e=.returned v∧Go B Iq s g w s' g' w'∧B8 n B Iq s' g' a w'∧Uk s' g' w' av v
theorem Jr.toKp {B:Nat} {Iq l:List Nat} {w w':World} (h:Jr l w w') (hB:B≤w.heap.size) (hl:∀ b∈l,b∈Iq∨B≤b):Kp B Iq w w':=
 ⟨h.os,h.tape,h.output,h.size,fun k hk hn=>h.block k (by omega) fun q=>by
  rcases hl k q with q | q
  ·exact hn q
  ·omega⟩
theorem Rh (s:St) (o:Option Nat) (j:Nat):(Fe s o).res j=if o=some j then .dead else s.res j:=by
 cases o with
 | none=>simp [Fe]
 | some i=>
  simp only [Fe,St.setRes,S9,Option.some.injEq]
  by_cases q:j=i
  ·rw [if_pos q,if_pos q.symm]
  ·rw [if_neg q,if_neg (fun e=>q e.symm)]
theorem Aw7 {T:Tb} (hs:A2 P T) (h:B8 n B Iq s g a w) {f:FuncId} {vs:List Vl} {args:List Value} (hv:VLR s g w vs args) {cs:List Bool} {av:AV} {s':St} (e:A0j T s f vs=some (cs,av,s')) (hcs:P1 cs=true):
  J6 P f∧i9 P f args.toArray n B Iq s g a w av s':=by
 unfold A0j at e
 split at e
 ·rename_i id
  split at e
  ·rename_i BT l0 l1 hr
   match args,hv with
   | [u],hv=>
   have hl:=hv.1.1
   simp only [Dq,hr] at hl
   obtain ⟨b,hb,hu⟩:=hl
   subst hu
   have r:=h.res id
   rw [hr] at r
   obtain ⟨b',cs,hb',hh,hL⟩:=r
   obtain rfl:b=b':=Option.some.inj (hb.symm.trans hb')
   obtain ⟨v0,v1,hcs⟩:∃ v0 v1,cs=#[v0,v1]:=by
    have:=hL.length
    match cs,this with
    | ⟨[x,y]⟩,_=>exact ⟨x,y,rfl⟩
   subst hcs
   have hL0:=hL.1
   have hL1:=hL.2.1
   have hlive:(s.res id).live=true:=by rw [hr]; rfl
   have hlt:=h.lt id b hb
   cases hcc:A4x T f BT with
   | true=>
    rw [hcc] at e
    simp only [cond_true] at e
    have hT:T.cc=some (f,BT):=by
     unfold A4x at hcc
     split at hcc
     ·rename_i f' B' hq
      simp only [Bool.and_eq_true] at hcc
      rw [hq,Nat.eq_of_beq_eq_true hcc.1,Nat.eq_of_beq_eq_true hcc.2]
     ·cases hcc
    obtain ⟨hcal,hok⟩:=hs.cc f BT hT
    refine ⟨hcal,?_⟩
    have become:∀ {p0:Value},Calls P f #[.pointer (some ⟨b,0,none⟩)] w (fun e w'=>e=.returned (.tuple #[])∧Jr [b] w w'∧w'.heap[b]?=some (.cells #[.pointer (some ⟨b,0,none⟩),v1] BT (0,0)))→
      i9 P f #[.pointer (some ⟨b,0,none⟩)] n B Iq s g a w (.tp []) (s.setRes id (.box BT [.ptr id 0,l1])):=by
     intro p0 hcx
     refine Calls.mono hcx fun en w'=>?_
     rintro ⟨rfl,hk,hh'⟩
     have hS:∀ c,Eu s g c→c < w.heap.size→Eu (s.setRes id (.box BT [.ptr id 0,l1])) g c∧w'.heap[c]?=w.heap[c]?:=by
      intro c hc hc'
      refine ⟨⟨hc.1,fun j hj=>?_⟩,hk.block c hc' (by simp only [List.mem_singleton]; rintro rfl; exact hc.2 id hlive hb)⟩
      by_cases q:j=id
      ·rw [q]; exact hc.2 id hlive
      ·rw [Aq s _ q] at hj; exact hc.2 j hj
     have hI:∀ j,A4 s g (s.setRes id (.box BT [.ptr id 0,l1])) g j:=by
      intro j
      by_cases q:j=id
      ·subst q
       unfold A4
       rw [hr]
       exact .inr ⟨_,_,Ao _ _ _,rfl⟩
      ·exact A4.same (Aq s _ q) rfl rfl
     refine ⟨.tuple #[],g,rfl,⟨hk.toKp h.base (fun c hc=>by simp only [List.mem_singleton] at hc; subst hc; exact hlt.2.1),hS,hI,rfl⟩,?_,⟨#[],rfl,rfl,fun j v hv=>by simp at hv⟩⟩
     refine h.step h.size h.defers hk.size hS hI (fun i=>.inl ⟨rfl,rfl⟩) (fun j=>?_) h.inj (fun i c hi=>⟨Nat.lt_of_lt_of_le (h.lt i c hi).1 hk.size,(h.lt i c hi).2⟩) rfl
     by_cases q:j=id
     ·subst q
      right
      rw [Ao]
      refine ⟨b,_,hb,hh',⟨?_,rfl⟩,⟨Dq.step hS hI hL1.1,hL1.2⟩,trivial⟩
      simp only [Dq,Ao]
      exact ⟨b,hb,rfl⟩
     ·exact .inl ⟨Aq s _ q,rfl,rfl,fun c hc=>hk.block c (h.lt j c hc).1 (by simp only [List.mem_singleton]; rintro rfl; exact q (h.inj j id c hc hb))⟩
    unfold ccD at e
    split at e
    ·cases e
     have h0:v0=.pointer none:=hL0.1
     subst h0
     exact become (p0:=undef) ((hok w b v1).1 hh)
    ·rename_i j
     split at e<;>cases e
     rename_i hj
     subst hj
     have h0:=hL0.1
     simp only [Dq,hr] at h0
     obtain ⟨b2,e1,e2⟩:=h0
     obtain rfl:b=b2:=Option.some.inj (hb.symm.trans e1)
     subst e2
     refine Calls.mono ((hok w b v1).2 hh) fun en w'=>?_
     rintro ⟨rfl,hk⟩
     have hS:∀ c,Eu s g c→c < w.heap.size→Eu s g c∧w'.heap[c]?=w.heap[c]?:=fun c hc hc'=>⟨hc,hk.block c hc' (by simp)⟩
     have hI:∀ j,A4 s g s g j:=fun _=>A4.same rfl rfl rfl
     refine ⟨.tuple #[],g,rfl,⟨hk.toKp h.base (fun c hc=>by simp at hc),hS,hI,rfl⟩,?_,⟨#[],rfl,rfl,fun j v hv=>by simp at hv⟩⟩
     exact h.step h.size h.defers hk.size hS hI (fun i=>.inl ⟨rfl,rfl⟩) (fun j=>.inl ⟨rfl,rfl,rfl,fun c hc=>hk.block c (h.lt j c hc).1 (by simp)⟩) h.inj (fun i c hi=>⟨Nat.lt_of_lt_of_le (h.lt i c hi).1 hk.size,(h.lt i c hi).2⟩) rfl
    ·rename_i j
     split at e<;>cases e
     rename_i hj
     subst hj
     have h0:=hL0.1
     simp only [Dq,hr] at h0
     rcases h0 with h0 | ⟨b2,e1,e2⟩
     ·subst h0
      exact become (p0:=undef) ((hok w b v1).1 hh)
     ·obtain rfl:b=b2:=Option.some.inj (hb.symm.trans e1)
      subst e2
      refine become (p0:=undef) (Calls.mono ((hok w b v1).2 hh) fun en w'=>?_)
      rintro ⟨rfl,hk⟩
      exact ⟨rfl,⟨hk.os,hk.tape,hk.output,hk.size,fun k q _=>hk.block k q (by simp)⟩,(hk.block b hlt.1 (by simp)).trans hh⟩
    ·cases e
   | false=>
    rw [hcc] at e
    simp only [cond_false] at e
    split at e
    ·rename_i ety hst
     have hT:T.st=some (f,BT,ety):=by
      unfold A5r at hst
      split at hst
      ·rename_i f' B' e' hq
       cases hc:(Nat.beq f' f&&Nat.beq B' BT) with
       | false=>rw [hc] at hst; cases hst
       | true=>
        rw [hc] at hst
        simp only [Bool.and_eq_true] at hc
        cases hst
        rw [hq,Nat.eq_of_beq_eq_true hc.1,Nat.eq_of_beq_eq_true hc.2]
      ·cases hst
     obtain ⟨hcal,hok⟩:=hs.st f BT ety hT
     refine ⟨hcal,?_⟩
     obtain ⟨p,e1,e⟩:=Option.bind_eq_some_iff.1 e
     cases e
     have hbytes:Ep p.2=true:=by simpa [P1] using hcs
     obtain ⟨⟨cs1,o1,o2⟩,k2,k3⟩:=Y0 h.res e1 hL1.1
     have hne:v1.ownBlock≠some b:=by
      rw [k2]
      intro q
      cases hp:p.1 with
      | none=>rw [hp] at q; cases q
      | some j=>
       rw [hp] at q
       have:j=id:=h.inj j id b q hb
       subst this
       obtain ⟨e',r1,_⟩:=Aoy e1 j hp
       rw [hr] at r1
       cases r1
     refine Calls.mono (hok w b v0 v1 p.2 cs1 hbytes hh o1 (o2.imp fun _ _ _=>trivial) hne) fun en w'=>?_
     rintro ⟨rfl,hk⟩
     rw [k2] at hk
     let g':Gh:=⟨fun j=>if p.1=some j then none else g.blk j,g.hdr,g.av⟩
     have hgb:∀ j c,g'.blk j=some c→g.blk j=some c∧p.1≠some j:=by
      intro j c q
      by_cases hq:p.1=some j
      ·have:g'.blk j=none:=if_pos hq
       rw [this] at q
       cases q
      ·have:g'.blk j=g.blk j:=if_neg hq
       exact ⟨by rw [← this]; exact q,hq⟩
     have hmem:∀ c,c∈(p.1.bind g.blk).toList→∃ j,p.1=some j∧g.blk j=some c:=by
      intro c hc
      simp only [Option.mem_toList] at hc
      obtain ⟨j,q1,q2⟩:=Option.bind_eq_some_iff.1 hc
      exact ⟨j,q1,q2⟩
     have hS:∀ c,Eu s g c→c < w.heap.size→Eu (Fe s p.1) g' c∧w'.heap[c]?=w.heap[c]?:=by
      intro c hc hc'
      refine ⟨⟨hc.1,fun j hj hk'=>?_⟩,hk.block c hc' (fun q=>?_)⟩
      ·obtain ⟨q1,q2⟩:=hgb j c hk'
       rw [Rh,if_neg q2] at hj
       exact hc.2 j hj q1
      ·obtain ⟨j,q1,q2⟩:=hmem c q
       exact hc.2 j (k3 j q1) q2
     have hI:∀ j,A4 s g (Fe s p.1) g' j:=by
      intro j
      by_cases q:p.1=some j
      ·exact .inl (by rw [Rh,if_pos q])
      ·exact A4.same (by rw [Rh,if_neg q]) (if_neg q) rfl
     refine ⟨_,g',rfl,⟨hk.toKp h.base (fun c hc=>?_),hS,hI,rfl⟩,?_,⟨rfl,rfl⟩⟩
     ·obtain ⟨j,q1,q2⟩:=hmem c hc
      exact (h.lt j c q2).2.1
     ·refine h.step h.size h.defers hk.size hS hI (fun i=>.inl ⟨by cases p.1<;>rfl,rfl⟩) (fun j=>?_) (fun i j c hi hj=>h.inj i j c (hgb i c hi).1 (hgb j c hj).1) (fun i c hi=>?_) rfl
      ·by_cases q:p.1=some j
       ·right
        rw [Rh,if_pos q]
        exact if_pos q
       ·left
        refine ⟨by rw [Rh,if_neg q],if_neg q,rfl,fun c hc=>hk.block c (h.lt j c hc).1 (fun q2=>?_)⟩
        obtain ⟨j',q3,q4⟩:=hmem c q2
        exact q (by rw [q3,h.inj j' j c q4 hc])
      ·obtain ⟨q1,_⟩:=hgb i c hi
       exact ⟨Nat.lt_of_lt_of_le (h.lt i c q1).1 hk.size,(h.lt i c q1).2⟩
    ·cases e
  ·cases e
 ·cases e
theorem Ajj (n:Nat) (s:St) (d:Option Tmp) (av:AV):(s.put n d av).res=s.res:=by
 cases d with
 | none=>rfl
 | some d=>unfold St.put; simp only; split<;>rfl
theorem Pd (h:B8 n B Iq s g a w) {av:AV} {v:Value} (d:Option Tmp) (hv:Uk s g w av v):B8 n B Iq (s.put n d av) g (a.put d v) w∧Go B Iq s g w (s.put n d av) g w:=by
 have hr:=Ajj n s d av
 have hS:∀ b,Eu s g b→b < w.heap.size→Eu (s.put n d av) g b∧w.heap[b]?=w.heap[b]?:=by
  intro b hb _
  refine ⟨⟨hb.1,fun id hl=>?_⟩,rfl⟩
  rw [hr] at hl
  exact hb.2 id hl
 have hI:∀ id,A4 s g (s.put n d av) g id:=fun id=>A4.same (by rw [hr]) rfl rfl
 refine ⟨h.step ?_ ?_ (Nat.le_refl _) hS hI (fun i=>?_) (fun id=>.inl ⟨by rw [hr],rfl,rfl,fun _ _=>rfl⟩) h.inj h.lt rfl,⟨Kp.refl B Iq w,hS,hI,rfl⟩⟩
 ·cases d with
  | none=>exact h.size
  | some d=>simp [Act.put,h.size]
 ·cases d with
  | none=>exact h.defers
  | some d=>exact h.defers
 ·cases d with
  | none=>exact .inl ⟨rfl,rfl⟩
  | some d=>
   by_cases hdn:Nat.blt d n=true
   ·have hlt:d < a.tmps.size:=by rw [h.size]; exact Nat.le_of_ble_eq_true hdn
    by_cases q:i=d
    ·subst q
     right
     have hc:(s.put n (some i) av).cell i=av:=by simp [St.put,St.setCell,hdn]
     rw [hc]
     have hv':Uk (s.put n (some i) av) g w av v:=Uk.step hS hI hv
     have:(a.put (some i) v).tmps.getD i undef=v:=by simp [Act.put,Array.getD,hlt]
     rw [this]
     exact hv'
    ·left
     refine ⟨by simp [St.put,St.setCell,hdn,A1 _ _ q],?_⟩
     simp [Act.put,Array.getD_eq_getD_getElem?,Array.getElem?_setIfInBounds_ne (Ne.symm q)]
   ·have hge:a.tmps.size≤d:=by
     rw [h.size]
     rcases Nat.lt_or_ge d n with q | q
     ·exact absurd (Nat.ble_eq_true_of_le q) hdn
     ·exact q
    left
    refine ⟨by simp [St.put,hdn],?_⟩
    simp [Act.put,Array.setIfInBounds_eq_of_size_le hge]
theorem Nf.call {f:FuncId} {xs:List Operand} {o:Oper} (hc:Nh o=some (f,xs)) (hcal:J6 P f) {av:AV} {s':St} (h:i9 P f (xs.map a.eval).toArray n B Iq s g a w av s'):Nf P n B Iq s g a w o av s':=by
 obtain ⟨dst,op,type,pos,after,guard⟩:=o
 unfold Nh at hc
 split at hc
 ·rename_i c hop
  split at hc<;>cases hc
  rename_i hcallee
  obtain ⟨callee,args,argTypes⟩:=c
  simp only at hop hcallee
  subst hop hcallee
  intro K Q hK
  unfold Oper.wp
  rw [execOp_call_go,Acl hcal,Oper.upon_enter]
  have hargs:(#[]++args.map a.eval++#[]:Array Value)=(args.toList.map a.eval).toArray:=by
   apply Array.toList_inj.1
   simp
  rw [hargs]
  refine Calls.mono h fun en w'=>?_
  rintro ⟨v,g',rfl,k1,k2,k3⟩
  exact hK v g' w' k1 k2 k3
 ·cases hc
theorem A0l {T:Tb} (hs:A2 P T) (h:B8 n B Iq s g a w) {nid:Nat} {o:Oper} {cs:List Bool} {av:AV} {s':St} (e:A0k P T s nid o=some (cs,av,s')) (hcs:P1 cs=true):Nf P n B Iq s g a w o av s':=by
 unfold A0k at e
 split at e
 ·rename_i f xs hc
  split at e
  ·rename_i vs hvs
   obtain ⟨k1,k2⟩:=Aw7 hs h (i8 h hvs) e hcs
   exact Nf.call hc k1 k2
  ·cases e
 ·exact As4 h (by rw [e]; simp [Ml,hcs])
theorem Ag3 {a b:List Bool}:P1 (a++b)=true→P1 a=true∧P1 b=true:=by
 induction a with
 | nil=>intro h; exact ⟨rfl,h⟩
 | cons x r ih=>
  intro h
  simp only [List.cons_append,P1,Bool.and_eq_true] at h ⊢
  exact ⟨⟨h.1,(ih h.2).1⟩,(ih h.2).2⟩
theorem Aw8 {T:Tb} (hs:A2 P T) {ops:Array Oper} {Q:Exit→Act→World→Prop}:∀ {l:List Oper} {nid:Nat} {s:St} {g:Gh} {a:Act} {w:World} {cs:List Bool} {s':St},
  A2r P T n l nid s=some (cs,s')→P1 cs=true→B8 n B Iq s g a w→(∀ g' a' w',Go B Iq s g w s' g' w'→B8 n B Iq s' g' a' w'→Q .normal a' w')→wpList P ops Q l a w
 | [],nid,s,g,a,w,cs,s',e,hcs,h,hk=>by cases e; exact hk g a w (Go.refl _ _ _ _ _) h
 | o::l,nid,s,g,a,w,cs,s',e,hcs,h,hk=>by
  simp only [A2r] at e
  split at e
  ·cases e
  ·rename_i hg
   split at e
   ·rename_i cs1 av s1 e1
    split at e
    ·rename_i cs2 s2 e2
     cases e
     obtain ⟨b1,b2⟩:=Ag3 hcs
     unfold wpList
     have hw:Region.wanted o (yielded ops a.tmps)=true:=by unfold Region.wanted; rw [hg]
     rw [hw,if_pos rfl]
     left
     refine A0l hs h e1 b1 _ Q fun v g' w' k1 k2 k3=>?_
     obtain ⟨r1,r2⟩:=Pd k2 o.dst k3
     exact Aw8 hs e2 b2 r1 fun g2 a2 w2 q1 q2=>hk g2 a2 w2 ((k1.trans r2).trans q1) q2
    ·cases e
   ·cases e
def A6e (r:Bool):Exit:=bif r then .ret else .normal
theorem A2t {T:Tb} (hs:A2 P T):∀ (c:Code) {nid:Nat} {s:St} {g:Gh} {a:Act} {w:World} {cs:List Bool} {r:Bool} {s':St} {Q:Exit→Act→World→Prop},
  Anp P T n c nid s=some (cs,r,s')→P1 cs=true→B8 n B Iq s g a w→(∀ g' a' w',Go B Iq s g w s' g' w'→B8 n B Iq s' g' a' w'→Q (A6e r) a' w')→c.wp P Q a w:=by
 intro c
 induction c with
 | skip=>intro nid s g a w cs r s' Q e hcs h hk; cases e; exact wp_skip (hk g a w (Go.refl _ _ _ _ _) h)
 | region id ops draw=>
  intro nid s g a w cs r s' Q e hcs h hk
  simp only [Anp] at e
  cases draw with
  | true=>cases e
  | false=>
   simp only [cond_false] at e
   split at e
   ·rename_i cs1 s1 e1
    cases e
    exact wp_region_list (Aw8 hs e1 hcs h hk)
   ·cases e
 | seq x y ihx ihy=>
  intro nid s g a w cs r s' Q e hcs h hk
  simp only [Anp] at e
  split at e
  ·rename_i cs1 s1 e1
   cases e
   exact wp_seq (ihx e1 hcs h fun g' a' w' k1 k2=>hk g' a' w' k1 k2)
  ·rename_i cs1 s1 e1
   split at e
   ·rename_i cs2 r2 s2 e2
    cases e
    obtain ⟨b1,b2⟩:=Ag3 hcs
    exact wp_seq (ihx e1 b1 h fun g' a' w' k1 k2=>ihy e2 b2 k2 fun g2 a2 w2 q1 q2=>hk g2 a2 w2 (k1.trans q1) q2)
   ·cases e
  ·cases e
 | cond c x y ihx ihy=>
  intro nid s g a w cs r s' Q e hcs h hk
  simp only [Anp] at e
  split at e
  ·rename_i ht
   exact wp_cond_true (Db h ht).1 (ihx e hcs h hk)
  ·rename_i ht
   exact wp_cond_false (Db h ht).1 (ihy e hcs h hk)
  ·cases e
 | ret=>intro nid s g a w cs r s' Q e hcs h hk; cases e; exact wp_ret (hk g a w (Go.refl _ _ _ _ _) h)
 | _=>intros; rename_i e _ _ _; first | (cases e; done) | (simp [Anp] at e; done)
theorem Y4 (h:B8 n B Iq s g a w):∀ {rv:List ResultVar} {vs:List Vl},Pc P s rv=some vs→
  ∃ us,(rv.mapM fun x:ResultVar=>(match x with | .tmp t=>pure (a.tmps.getD t undef) | .cell b t=>do loadVar t (← asAddr (a.tmps.getD b undef)):Sem Value)).run P w=.ok us w∧VLR s g w vs us
 | [],vs,e=>by cases e; exact ⟨[],by simp,trivial⟩
 | .tmp t::r,vs,e=>by
  simp only [Pc] at e
  split at e
  ·rename_i v hv
   obtain ⟨vs',e1,rfl⟩:=Option.map_eq_some_iff.1 e
   obtain ⟨us,k1,k2⟩:=Y4 h e1
   have k:=h.cell t
   rw [hv] at k
   refine ⟨a.tmps.getD t undef::us,?_,k,k2⟩
   simp only [List.mapM_cons,Sem.run_bind,Sem.run_pure,Result.andThen_ok]
   rw [k1]
   rfl
  ·cases e
 | .cell b t::r,vs,e=>by
  simp only [Pc] at e
  split at e
  ·rename_i v hv
   obtain ⟨vs',e1,rfl⟩:=Option.map_eq_some_iff.1 e
   obtain ⟨us,k1,k2⟩:=Y4 h e1
   unfold Aj0 at hv
   obtain ⟨l,q1,hv⟩:=Option.bind_eq_some_iff.1 hv
   obtain ⟨ls,q2,hv⟩:=Option.bind_eq_some_iff.1 hv
   obtain ⟨hl,_⟩:=Dc h q1
   obtain ⟨ad,cs,hu,hL,hc⟩:=A4p h q2 hl
   obtain ⟨u,hr,hvv⟩:=Wk hv hL hc
   have hu':a.tmps.getD b undef=.pointer (some ad):=hu
   refine ⟨u::us,?_,hvv,k2⟩
   simp only [List.mapM_cons,Sem.run_bind,hu']
   have ha:(asAddr (.pointer (some ad)):Sem Addr).run P w=.ok ad w:=by simp [asAddr]
   rw [ha]
   simp only [Result.andThen_ok,hr,k1]
   rfl
  ·cases e
theorem Ag4 (h:B8 n B Iq s g a w) {fn:Func} {vs:List Vl} (e:Pc P s fn.results.toList=some vs):∃ us,(results fn a.tmps).run P w=.ok (Aqr us) w∧VLR s g w vs us:=by
 obtain ⟨us,k1,k2⟩:=Y4 h e
 refine ⟨us,?_,k2⟩
 unfold results
 rw [Array.mapM_eq_mapM_toList]
 simp only [Sem.run_bind,Sem.run_map]
 refine Eq.trans (congrArg (fun r:Result (List Value)=>(r.andThen fun a w'=>Result.ok a.toArray w').andThen fun a w'=>Sem.run P (pure (if h:a.size=1 then a[0] else Value.tuple a)) w') k1) ?_
 clear k1 k2
 match us with
 | []=>rfl
 | [u]=>rfl
 | u::v::us=>rfl
theorem A2u {T:Tb} (hs:A2 P T) (h:B8 n B Iq s g a w) {f:FuncId} {fn:Func} (hf:P.funcs[f]?=some fn) {vs:List Vl} {args:List Value} (hv:VLR s g w vs args) {nid:Nat} {av:AV} {s':St}
  (e:Ml (A2s P T fn vs s nid)=some (av,s')):i9 P f args.toArray n B Iq s g a w av s':=by
 obtain ⟨cs,e,hcs⟩:=Co e
 unfold A2s at e
 split at e
 ·cases e
 ·rename_i c hb
  cases hle:Nat.ble vs.length fn.ntmps with
  | false=>rw [hle] at e; cases e
  | true=>
   rw [hle] at e
   simp only [cond_true] at e
   have hle:=Nat.le_of_ble_eq_true hle
   split at e
   ·rename_i cs1 r1 s1 e1
    split at e
    ·rename_i vs' e2
     cases e
     have hlen:=hv.length
     have hent:B8 fn.ntmps B Iq (Aq5 s vs) g { tmps:=args.toArray++Array.replicate (fn.ntmps - args.toArray.size) undef,defers:=[] } w:=by
      refine ⟨by simp; omega,rfl,h.base,fun i=>?_,fun id=>?_,h.inj,h.lt,h.avB⟩
      ·show Uk _ _ _ (match vs[i]? with | some v=>.vl v | none=>.dead) _
       cases hi:vs[i]? with
       | none=>trivial
       | some v=>
        obtain ⟨u,q1,q2⟩:=hv.get hi
        have hlt:=(List.getElem?_eq_some_iff.1 q1).1
        have:(args.toArray++Array.replicate (fn.ntmps - args.toArray.size) undef).getD i undef=u:=by
         rw [Array.getD_eq_getD_getElem?,Array.getElem?_append_left (by simpa using hlt),List.getElem?_toArray,q1]
         rfl
        rw [this]
        exact VlR.step (s:=s) (s':=Aq5 s vs) (g:=g) (g':=g) (w:=w) (w':=w) (fun b hb _=>⟨hb,rfl⟩) (fun _=>A4.same rfl rfl rfl) q2
      ·exact K8.step (s:=s) (s':=Aq5 s vs) (g:=g) (g':=g) (w:=w) (w':=w) (fun b hb _=>⟨hb,rfl⟩) (fun _=>A4.same rfl rfl rfl) rfl rfl (fun _ _=>rfl) (h.res id)
     refine calls_of_wp hf hb ?_
     refine A2t hs c e1 hcs hent fun g' a' w' k1 k2=>?_
     obtain ⟨us,q1,q2⟩:=Ag4 k2 e2
     have hgo:Go B Iq s g w ⟨s.cell,s1.res⟩ g' w':=⟨k1.kp,fun b hb hl=>k1.S b hb hl,fun id=>k1.ref id,k1.av⟩
     have hrel:B8 n B Iq ⟨s.cell,s1.res⟩ g' a w':=by
      refine h.step h.size h.defers k1.kp.size (fun b hb hl=>hgo.S b hb hl) (fun id=>hgo.ref id) (fun i=>.inl ⟨rfl,rfl⟩) (fun id=>.inr ?_) k2.inj (fun i b hi=>⟨(k2.lt i b hi).1,(k2.lt i b hi).2.1,by rw [← k1.av]; exact (k2.lt i b hi).2.2⟩) k1.av
      exact K8.step (s:=s1) (s':=⟨s.cell,s1.res⟩) (g:=g') (g':=g') (w:=w') (w':=w') (fun b hb _=>⟨hb,rfl⟩) (fun _=>A4.same rfl rfl rfl) rfl rfl (fun _ _=>rfl) (k2.res id)
     have hav:Uk ⟨s.cell,s1.res⟩ g' w' (Avh vs') (Aqr us):=Uk.step (s:=s1) (s':=⟨s.cell,s1.res⟩) (g:=g') (g':=g') (w:=w') (w':=w') (fun b hb _=>⟨hb,rfl⟩) (fun _=>A4.same rfl rfl rfl) (A0c q2)
     cases r1
     ·exact ⟨k2.defers,_,q1,_,g',rfl,hgo,hrel,hav⟩
     ·exact ⟨k2.defers,_,q1,_,g',rfl,hgo,hrel,hav⟩
    ·cases e
   ·cases e
theorem A0m:∀ {ls:List Lf} {cs:List Value},G7 s g w ls cs→VLR s g w (A2q ls) cs
 | [],[],_=>trivial
 | [],_::_,h=>h.elim
 | _::_,[],h=>h.elim
 | _::_,_::_,h=>⟨h.1,A0m h.2⟩
theorem VLR.append:∀ {vs vs':List Vl} {us us':List Value},VLR s g w vs us→VLR s g w vs' us'→VLR s g w (vs++vs') (us++us')
 | [],_,[],_,_,h'=>h'
 | [],_,_::_,_,h,_=>h.elim
 | _::_,_,[],_,h,_=>h.elim
 | _::_,_,_::_,_,h,h'=>⟨h.1,VLR.append h.2 h'⟩
theorem Y5 {sigs:Tb} (hs:A2 P sigs) (h:B8 n B Iq s g a w) {nid:Nat} {o:Oper} {av:AV} {s':St} (e:Rg P sigs s nid o=some (av,s')):Nf P n B Iq s g a w o av s':=by
 unfold Rg at e
 split at e
 ·rename_i f xs hc
  split at e
  ·rename_i vs hvs
   have hV:=i8 h hvs
   split at e
   ·rename_i sd hsd
    obtain ⟨hcal,hsound⟩:=hs.sd f sd hsd
    exact Nf.call hc hcal (Ao0 h hsound hV e)
   ·split at e
    ·rename_i fn hfn
     obtain ⟨q1,q2,q3⟩:=hs.inl f fn hfn
     exact Nf.call hc ⟨fn,q1,q2,q3⟩ (A2u hs h q1 hV e)
    ·obtain ⟨cs,e1,hcs⟩:=Co e
     obtain ⟨q1,q2⟩:=Aw7 hs h hV e1 hcs
     exact Nf.call hc q1 q2
  ·cases e
 ·split at e
  ·rename_i f xs ls hc
   split at e
   ·rename_i vs hvs
    split at e
    ·rename_i sd hsd
     obtain ⟨hcal,hsound⟩:=hs.sd f sd hsd
     obtain ⟨dst,op,type,pos,after,guard⟩:=o
     unfold Ack at hc
     split at hc
     ·rename_i c hop
      split at hc
      ·rename_i t hcallee
       split at hc<;>cases hc
       rename_i hcell
       obtain ⟨callee,args,argTypes⟩:=c
       simp only at hop hcallee
       subst hop hcallee
       have k:=h.cell t
       rw [hcell] at k
       obtain ⟨caps,hu,hL⟩:=k
       have hu':a.eval (.tmp t)=.func (.func f) #[] caps:=hu
       intro K Q hK
       unfold Oper.wp
       have hex:execOp a.eval ⟨dst,.call ⟨.value (.tmp t),args,argTypes⟩,type,pos,after,guard⟩=callFunc f (#[]++args.map a.eval++caps):=by
        simp only [execOp,resolve,hu',Deferred.ofValue]
        rfl
       rw [hex,Acl hcal,Oper.upon_enter]
       have hargs:(#[]++args.map a.eval++caps:Array Value)=(args.toList.map a.eval++caps.toList).toArray:=by
        apply Array.toList_inj.1
        simp
       rw [hargs]
       refine Calls.mono (Ao0 h hsound (VLR.append (i8 h hvs) (A0m hL)) e) fun en w'=>?_
       rintro ⟨v,g',rfl,k1,k2,k3⟩
       exact hK v g' w' k1 k2 k3
      ·cases hc
     ·cases hc
    ·cases e
   ·cases e
  ·exact As4 h e
end
end Go.Proofs.YtfkefgbihlfjmaaGreat.R

