/- Calls that are entered in place, function values, and the two library functions that a builder needs. No condition. -/
import Derived.Test.YtfkefgbihlfjmaaRTy
noncomputable section
set_option linter.unusedVariables false
set_option linter.unusedSimpArgs false
namespace Go.Proofs.Ytfkefgbihlfjmaa.R
open Go Go.RowKit
section
def N7 (o:Oper):Option (FuncId×List Operand):=match o.op with
 | .call c=>match c.callee with
  | .value (.func f)=>some (f,c.args.toList)
  | _=>none
 | _=>none
def Agc (s:St) (o:Oper):Option (FuncId×List Operand×List Lf):=match o.op with
 | .call c=>match c.callee with
  | .value (.tmp t)=>match s.cell t with
   | .fn f ls=>some (f,c.args.toList,ls)
   | _=>none
  | _=>none
 | _=>none
def Vj (s:St):List Operand→Option (List Vl)
 | []=>some []
 | x::r=>(s.value x).bind fun v=>(Vj s r).bind fun vs=>some (v::vs)
def A6x:List Lf→List Vl
 | []=>[]
 | l::r=>.lf l::A6x r
structure Tb where
 sd:FuncId→Option SD
 inl:FuncId→Option Func
 cc:Option (FuncId×TypeId)
 st:Option (FuncId×TypeId×TypeId)
 srt:Option (FuncId×FuncId×TypeId×TypeId×TypeId)
def Tb.of (sd:FuncId→Option SD):Tb:=⟨sd,fun _=>none,none,none,none⟩
def F3 (xs:List Int):Bool:=xs.all fun x=>decide (0≤x)&&decide (x < 256)
def Bar (P:Program) (T:TypeId) (f:FuncId):Prop:=∀ (w:World) (b:Nat) (v:Value),
 (w.heap[b]? = some (.cells #[.pointer none,v] T (0,0))→Calls P f #[.pointer (some ⟨b,0,none⟩)] w fun e w'=>e=.returned (.tuple #[])∧Nw [b] w w'∧w'.heap[b]? = some (.cells #[.pointer (some ⟨b,0,none⟩),v] T (0,0)))∧
 (w.heap[b]? = some (.cells #[.pointer (some ⟨b,0,none⟩),v] T (0,0))→Calls P f #[.pointer (some ⟨b,0,none⟩)] w fun e w'=>e=.returned (.tuple #[])∧Nw [] w w')
def Bas (P:Program) (T e:TypeId) (f:FuncId):Prop:=∀ (w:World) (b:Nat) (p v:Value) (xs:List Int) (cs:List Value),
 F3 xs=true→w.heap[b]? = some (.cells #[p,v] T (0,0))→w.ownsRow 0 e 1 v xs.length cs→Ip w (fun _=>True) (.int .u8) xs cs→v.ownBlock≠some b→
  Calls P f #[.pointer (some ⟨b,0,none⟩)] w fun e w'=>e=.returned (.string (strOfNums xs))∧Nw v.ownBlock.toList w w'
abbrev prT:Ty:=.pair .str (.pair .str .unit)
abbrev prD:=Ab×Ab×Unit
def ltK (a b:prD):Bool:=Op.bytesLess a.1.toList b.1.toList
def Aou (p:prD):List prD→List prD
 | []=>[p]
 | q::r=>bif ltK q p then q::Aou p r else p::q::r
def Xj (l:List prD):List prD:=l.foldr Aou []
def Jb:List prD→Bool
 | []=>true
 | p::r=>!(r.any fun q=>q.1.toList==p.1.toList)&&Jb r
def A4k (P:Program) (fs fc:FuncId) (BT U e:TypeId):Prop:=∀ (w:World) (b:Nat) (v:Value) (xs:List prD) (cs:List Value),
 Jb xs=true→xs.length≤1000→b < w.heap.size→w.heap[b]? = some (.cells #[v] BT (0,0))→w.ownsRow 0 e 2 v xs.length cs→Ip w (fun _=>True) prT xs cs→v.ownBlock≠some b→
  Calls P fs #[.iface U v,.func (.func fc) #[] #[.pointer (some ⟨b,0,none⟩)]] w fun en w'=>en=.returned (.tuple #[])∧Nw v.ownBlock.toList w w'∧∃ cs',w'.ownsRow 0 e 2 v xs.length cs'∧∀ S,Ip w' S prT (Xj xs) cs'
structure A4 (P:Program) (T:Tb):Prop where
 sd:∀ f sd,T.sd f=some sd→Ky P f∧q9 P f sd.sg sd.den
 inl : ∀ f fn, T.inl f = some fn → P.funcs[f]? = some fn ∧ (fn.name == "runtime.NumGoroutine") = false ∧ fn.body.isNone = false
 cc:∀ f BT,T.cc=some (f,BT)→Ky P f∧Bar P BT f
 st:∀ f BT e,T.st=some (f,BT,e)→Ky P f∧Bas P BT e f
 srt:∀ fs fc BT U e,T.srt=some (fs,fc,BT,U,e)→Ky P fs∧A4k P fs fc BT U e
theorem A4.of {P:Program} {sd:FuncId→Option SD} (h:∀ f d,sd f=some d→Ky P f∧q9 P f d.sg d.den):A4 P (Tb.of sd):=
 ⟨h,fun _ _ q=>(by cases q),fun _ _ q=>(by cases q),fun _ _ _ q=>(by cases q),fun _ _ _ _ _ q=>(by cases q)⟩
def A81 (T:Tb) (f:FuncId) (BT:TypeId):Bool:=match T.cc with
 | some (f',B')=>Nat.beq f' f&&Nat.beq B' BT
 | none=>false
def A9x (T:Tb) (f:FuncId) (BT:TypeId):Option TypeId:=match T.st with
 | some (f',B',e)=>bif Nat.beq f' f&&Nat.beq B' BT then some e else none
 | none=>none
def ccD (s:St) (id:Nat) (BT:TypeId) (l0 l1:Lf):Cd:=match l0 with
 | .c (.pointer none)=>some ([],.tp [],s.setRes id (.box BT [.ptr id 0,l1]))
 | .ptr j 0=>if j=id then some ([],.tp [],s) else none
 | .sp j=>if j=id then some ([],.tp [],s.setRes id (.box BT [.ptr id 0,l1])) else none
 | _=>none
def A4l (T:Tb) (s:St) (f:FuncId) (vs:List Vl):Cd:=match vs with
 | [.lf (.ptr id 0)]=>match s.res id with
  | .box BT [l0,l1]=>bif A81 T f BT then ccD s id BT l0 l1 else (match A9x T f BT with
   | some e=>(Xc s ⟨e,.int .u8,[],0⟩ l1).bind fun p=>some ([F3 p.2],.vl (.lf (.c (.string (strOfNums p.2)))),Fk s p.1)
   | none=>none)
  | _=>none
 | _=>none
def Au6 (s:St) (vs:List Vl):St:=⟨fun i=>match vs[i]? with | some v=>.vl v | none=>.dead,s.res⟩
def A4m (P:Program) (T:Tb) (s:St) (nid:Nat) (o:Oper):Cd:=match N7 o with
 | some (f,xs)=>match Vj s xs with
  | some vs=>A4l T s f vs
  | none=>none
 | none=>Xi P s nid o
def St.put (n:Nat) (s:St) (d:Option Tmp) (av:AV):St:=match d with
 | some d=>if Nat.blt d n then s.setCell d av else s
 | none=>s
def A8d (s:St) (nid:Nat):Nat:=match s.res nid with
 | .unborn=>nid
 | _=>nid + 1
def A6y (P:Program) (T:Tb) (n:Nat):List Oper→Nat→St→Option (List Bool×St)
 | [],_,s=>some ([],s)
 | o::r,nid,s=>match o.guard with
  | some _=>none
  | none=>match A4m P T s nid o with
   | some (cs,av,s')=>match A6y P T n r (A8d s' nid) (s'.put n o.dst av) with
    | some (cs',s'')=>some (cs++cs',s'')
    | none=>none
   | none=>none
def Art (P:Program) (T:Tb) (n:Nat):Code→Nat→St→Option (List Bool×Bool×St)
 | .skip,_,s=>some ([],false,s)
 | .region _ ops draw,nid,s=>bif draw then none else match A6y P T n ops.toList nid s with
  | some (cs,s')=>some (cs,false,s')
  | none=>none
 | .seq a b,nid,s=>match Art P T n a nid s with
  | some (cs,true,s')=>some (cs,true,s')
  | some (cs,false,s')=>match Art P T n b (A8d s' nid) s' with
   | some (cs',r,s'')=>some (cs++cs',r,s'')
   | none=>none
  | none=>none
 | .cond c a b,nid,s=>match s.conc c with
  | some (.bool true)=>Art P T n a nid s
  | some (.bool false)=>Art P T n b nid s
  | _=>none
 | .ret,_,s=>some ([],true,s)
 | _,_,_=>none
def Qt (P:Program) (s:St):List ResultVar→Option (List Vl)
 | []=>some []
 | .tmp t::r=>match s.cell t with
  | .vl v=>(Qt P s r).map (v::·)
  | _=>none
 | .cell a t::r=>match An8 P s t (.tmp a) with
  | some v=>(Qt P s r).map (v::·)
  | none=>none
def A6z (P:Program) (T:Tb) (fn:Func) (vs:List Vl) (s:St) (nid:Nat):Cd:=match fn.body with
 | none=>none
 | some c=>bif Nat.ble vs.length fn.ntmps then (match Art P T fn.ntmps c nid (Au6 s vs) with
  | some (cs,_,s')=>match Qt P s' fn.results.toList with
   | some vs'=>some (cs,Aze vs',⟨s.cell,s'.res⟩)
   | none=>none
  | none=>none) else none
def S5 (P:Program) (T:Tb) (s:St) (nid:Nat) (o:Oper):Option (AV×St):=match N7 o with
 | some (f,xs)=>match Vj s xs with
  | some vs=>match T.sd f with
   | some sd=>Aee sd.sg sd.den s nid vs
   | none=>match T.inl f with
    | some fn=>Nb (A6z P T fn vs s nid)
    | none=>Nb (A4l T s f vs)
  | none=>none
 | none=>match Agc s o with
  | some (f,xs,ls)=>match Vj s xs with
   | some vs=>match T.sd f with
    | some sd=>Aee sd.sg sd.den s nid (vs++A6x ls)
    | none=>none
   | none=>none
  | none=>Nb (Xi P s nid o)
section
variable {P:Program} {n B:Nat} {Iq:List Nat} {s:St} {g:Gh} {a:Act} {w:World}
theorem Ab9 (h:B8 n B Iq s g a w):∀ {xs:List Operand} {vs:List Vl},Vj s xs=some vs→VLR s g w vs (xs.map a.eval)
 | [],vs,e=>by cases e; trivial
 | x::r,vs,e=>by
  simp only [Vj] at e
  obtain ⟨v,e1,e⟩:=A7 e
  obtain ⟨vs',e2,e⟩:=A7 e
  cases e
  exact ⟨Za h e1,Ab9 h e2⟩
theorem Agd {f:FuncId} (hc:Ky P f) (args:Array Value):(callFunc f args).run P w=.ok (.enter f args) w:=by
 obtain ⟨fn,h1,h2,h3⟩:=hc
 simp only [callFunc,Sem.run_bind,run_program,Result.andThen_ok,h1,h2,h3,Bool.false_eq_true,if_false]
 rfl
def Aca (P:Program) (f:FuncId) (args:Array Value) (n B:Nat) (Iq:List Nat) (s:St) (g:Gh) (a:Act) (w:World) (av:AV) (s':St):Prop:=
 Calls P f args w fun e w'=>∃ v g',e=.returned v∧Go B Iq s g w s' g' w'∧B8 n B Iq s' g' a w'∧Ww s' g' w' av v
theorem Nw.toKp {B:Nat} {Iq l:List Nat} {w w':World} (h:Nw l w w') (hB:B≤w.heap.size) (hl:∀ b∈l,b∈Iq∨B≤b):Kp B Iq w w':=
 ⟨h.os,h.tape,h.output,h.size,fun k hk hn=>h.block k (by omega) fun q=>by
  rcases hl k q with q | q
  ·exact hn q
  ·omega⟩
theorem S6 (s:St) (o:Option Nat) (j:Nat):(Fk s o).res j=if o=some j then .dead else s.res j:=by
 cases o with
 | none=>simp [Fk]
 | some i=>
  simp only [Fk,St.setRes,Vc,Option.some.injEq]
  by_cases q:j=i
  ·rw [if_pos q,if_pos q.symm]
  ·rw [if_neg q,if_neg (fun e=>q e.symm)]
theorem A03 {T:Tb} (hs:A4 P T) (h:B8 n B Iq s g a w) {f:FuncId} {vs:List Vl} {args:List Value} (hv:VLR s g w vs args) {cs:List Bool} {av:AV} {s':St} (e:A4l T s f vs=some (cs,av,s')) (hcs:Rg cs=true):
  Ky P f∧Aca P f args.toArray n B Iq s g a w av s':=by
 unfold A4l at e
 split at e
 ·rename_i id
  split at e
  ·rename_i BT l0 l1 hr
   match args,hv with
   | [u],hv=>
   have hl:=hv.1.1
   simp only [Dr,hr] at hl
   obtain ⟨b,hb,hu⟩:=hl
   subst hu
   have r:=h.res id
   rw [hr] at r
   obtain ⟨b',cs,hb',hh,hL⟩:=r
   obtain rfl:b=b':=Option.some.inj (hb.symm.trans hb')
   obtain ⟨v0,v1,hcs⟩:∃ v0 v1,cs=#[v0,v1]:=by
    have:=hL.length
    match cs,this with
    | ⟨[x,y]⟩,_=>exact ⟨x,y,rfl⟩
   subst hcs
   have hL0:=hL.1
   have hL1:=hL.2.1
   have hlive:(s.res id).live=true:=by rw [hr]; rfl
   have hlt:=h.lt id b hb
   cases hcc:A81 T f BT with
   | true=>
    rw [hcc] at e
    simp only [cond_true] at e
    have hT:T.cc=some (f,BT):=by
     unfold A81 at hcc
     split at hcc
     ·rename_i f' B' hq
      simp only [Bool.and_eq_true] at hcc
      rw [hq,Nat.eq_of_beq_eq_true hcc.1,Nat.eq_of_beq_eq_true hcc.2]
     ·cases hcc
    obtain ⟨hcal,hok⟩:=hs.cc f BT hT
    refine ⟨hcal,?_⟩
    have become:∀ {p0:Value},Calls P f #[.pointer (some ⟨b,0,none⟩)] w (fun e w'=>e=.returned (.tuple #[])∧Nw [b] w w'∧w'.heap[b]? = some (.cells #[.pointer (some ⟨b,0,none⟩),v1] BT (0,0)))→
      Aca P f #[.pointer (some ⟨b,0,none⟩)] n B Iq s g a w (.tp []) (s.setRes id (.box BT [.ptr id 0,l1])):=by
     intro p0 hcx
     refine Calls.mono hcx fun en w'=>?_
     rintro ⟨rfl,hk,hh'⟩
     have hS:∀ c,Ev s g c→c < w.heap.size→Ev (s.setRes id (.box BT [.ptr id 0,l1])) g c∧w'.heap[c]? = w.heap[c]? := by
      intro c hc hc'
      refine ⟨⟨hc.1,fun j hj=>?_⟩,hk.block c hc' (by simp only [List.mem_singleton]; rintro rfl; exact hc.2 id hlive hb)⟩
      by_cases q:j=id
      ·rw [q]; exact hc.2 id hlive
      ·rw [Ar s _ q] at hj; exact hc.2 j hj
     have hI:∀ j,A0 s g (s.setRes id (.box BT [.ptr id 0,l1])) g j:=by
      intro j
      by_cases q:j=id
      ·subst q
       unfold A0
       rw [hr]
       exact .inr ⟨_,_,Aq _ _ _,rfl⟩
      ·exact A0.same (Ar s _ q) rfl rfl
     refine ⟨.tuple #[],g,rfl,⟨hk.toKp h.base (fun c hc=>by simp only [List.mem_singleton] at hc; subst hc; exact hlt.2.1),hS,hI,rfl⟩,?_,⟨#[],rfl,rfl,fun j v hv=>by simp at hv⟩⟩
     refine h.step h.size h.defers hk.size hS hI (fun i=>.inl ⟨rfl,rfl⟩) (fun j=>?_) h.inj (fun i c hi=>⟨Nat.lt_of_lt_of_le (h.lt i c hi).1 hk.size,(h.lt i c hi).2⟩) rfl
     by_cases q:j=id
     ·subst q
      right
      rw [Aq]
      refine ⟨b,_,hb,hh',⟨?_,rfl⟩,⟨Dr.step hS hI hL1.1,hL1.2⟩,trivial⟩
      simp only [Dr,Aq]
      exact ⟨b,hb,rfl⟩
     ·exact .inl ⟨Ar s _ q,rfl,rfl,fun c hc=>hk.block c (h.lt j c hc).1 (by simp only [List.mem_singleton]; rintro rfl; exact q (h.inj j id c hc hb))⟩
    unfold ccD at e
    split at e
    ·cases e
     have h0:v0=.pointer none:=hL0.1
     subst h0
     exact become (p0:=undef) ((hok w b v1).1 hh)
    ·rename_i j
     split at e<;>cases e
     rename_i hj
     subst hj
     have h0:=hL0.1
     simp only [Dr,hr] at h0
     obtain ⟨b2,e1,e2⟩:=h0
     obtain rfl:b=b2:=Option.some.inj (hb.symm.trans e1)
     subst e2
     refine Calls.mono ((hok w b v1).2 hh) fun en w'=>?_
     rintro ⟨rfl,hk⟩
     have hS:∀ c,Ev s g c→c < w.heap.size→Ev s g c∧w'.heap[c]? = w.heap[c]? := fun c hc hc'=>⟨hc,hk.block c hc' (by simp)⟩
     have hI:∀ j,A0 s g s g j:=fun _=>A0.same rfl rfl rfl
     refine ⟨.tuple #[],g,rfl,⟨hk.toKp h.base (fun c hc=>by simp at hc),hS,hI,rfl⟩,?_,⟨#[],rfl,rfl,fun j v hv=>by simp at hv⟩⟩
     exact h.step h.size h.defers hk.size hS hI (fun i=>.inl ⟨rfl,rfl⟩) (fun j=>.inl ⟨rfl,rfl,rfl,fun c hc=>hk.block c (h.lt j c hc).1 (by simp)⟩) h.inj (fun i c hi=>⟨Nat.lt_of_lt_of_le (h.lt i c hi).1 hk.size,(h.lt i c hi).2⟩) rfl
    ·rename_i j
     split at e<;>cases e
     rename_i hj
     subst hj
     have h0:=hL0.1
     simp only [Dr,hr] at h0
     rcases h0 with h0 | ⟨b2,e1,e2⟩
     ·subst h0
      exact become (p0:=undef) ((hok w b v1).1 hh)
     ·obtain rfl:b=b2:=Option.some.inj (hb.symm.trans e1)
      subst e2
      refine become (p0:=undef) (Calls.mono ((hok w b v1).2 hh) fun en w'=>?_)
      rintro ⟨rfl,hk⟩
      exact ⟨rfl,⟨hk.os,hk.tape,hk.output,hk.size,fun k q _=>hk.block k q (by simp)⟩,(hk.block b hlt.1 (by simp)).trans hh⟩
    ·cases e
   | false=>
    rw [hcc] at e
    simp only [cond_false] at e
    split at e
    ·rename_i ety hst
     have hT:T.st=some (f,BT,ety):=by
      unfold A9x at hst
      split at hst
      ·rename_i f' B' e' hq
       cases hc:(Nat.beq f' f&&Nat.beq B' BT) with
       | false=>rw [hc] at hst; cases hst
       | true=>
        rw [hc] at hst
        simp only [Bool.and_eq_true] at hc
        cases hst
        rw [hq,Nat.eq_of_beq_eq_true hc.1,Nat.eq_of_beq_eq_true hc.2]
      ·cases hst
     obtain ⟨hcal,hok⟩:=hs.st f BT ety hT
     refine ⟨hcal,?_⟩
     obtain ⟨p,e1,e⟩:=A7 e
     cases e
     have hbytes:F3 p.2=true:=by simpa [Rg] using hcs
     obtain ⟨⟨cs1,o1,o2⟩,k2,k3⟩:=s4 h.res e1 hL1.1
     have hne:v1.ownBlock≠some b:=by
      rw [k2]
      intro q
      cases hp:p.1 with
      | none=>rw [hp] at q; cases q
      | some j=>
       rw [hp] at q
       have:j=id:=h.inj j id b q hb
       subst this
       obtain ⟨e',r1,_⟩:=Asz e1 j hp
       rw [hr] at r1
       cases r1
     refine Calls.mono (hok w b v0 v1 p.2 cs1 hbytes hh o1 (o2.imp fun _ _ _=>trivial) hne) fun en w'=>?_
     rintro ⟨rfl,hk⟩
     rw [k2] at hk
     let g':Gh:=⟨fun j=>if p.1=some j then none else g.blk j,g.hdr,g.av⟩
     have hgb:∀ j c,g'.blk j=some c→g.blk j=some c∧p.1≠some j:=by
      intro j c q
      by_cases hq:p.1=some j
      ·have:g'.blk j=none:=if_pos hq
       rw [this] at q
       cases q
      ·have:g'.blk j=g.blk j:=if_neg hq
       exact ⟨by rw [← this]; exact q,hq⟩
     have hmem:∀ c,c∈(p.1.bind g.blk).toList→∃ j,p.1=some j∧g.blk j=some c:=by
      intro c hc
      simp only [Option.mem_toList] at hc
      obtain ⟨j,q1,q2⟩:=A7 hc
      exact ⟨j,q1,q2⟩
     have hS:∀ c,Ev s g c→c < w.heap.size→Ev (Fk s p.1) g' c∧w'.heap[c]? = w.heap[c]? := by
      intro c hc hc'
      refine ⟨⟨hc.1,fun j hj hk'=>?_⟩,hk.block c hc' (fun q=>?_)⟩
      ·obtain ⟨q1,q2⟩:=hgb j c hk'
       rw [S6,if_neg q2] at hj
       exact hc.2 j hj q1
      ·obtain ⟨j,q1,q2⟩:=hmem c q
       exact hc.2 j (k3 j q1) q2
     have hI:∀ j,A0 s g (Fk s p.1) g' j:=by
      intro j
      by_cases q:p.1=some j
      ·exact .inl (by rw [S6,if_pos q])
      ·exact A0.same (by rw [S6,if_neg q]) (if_neg q) rfl
     refine ⟨_,g',rfl,⟨hk.toKp h.base (fun c hc=>?_),hS,hI,rfl⟩,?_,⟨rfl,rfl⟩⟩
     ·obtain ⟨j,q1,q2⟩:=hmem c hc
      exact (h.lt j c q2).2.1
     ·refine h.step h.size h.defers hk.size hS hI (fun i=>.inl ⟨by cases p.1<;>rfl,rfl⟩) (fun j=>?_) (fun i j c hi hj=>h.inj i j c (hgb i c hi).1 (hgb j c hj).1) (fun i c hi=>?_) rfl
      ·by_cases q:p.1=some j
       ·right
        rw [S6,if_pos q]
        exact if_pos q
       ·left
        refine ⟨by rw [S6,if_neg q],if_neg q,rfl,fun c hc=>hk.block c (h.lt j c hc).1 (fun q2=>?_)⟩
        obtain ⟨j',q3,q4⟩:=hmem c q2
        exact q (by rw [q3,h.inj j' j c q4 hc])
      ·obtain ⟨q1,_⟩:=hgb i c hi
       exact ⟨Nat.lt_of_lt_of_le (h.lt i c q1).1 hk.size,(h.lt i c q1).2⟩
    ·cases e
  ·cases e
 ·cases e
theorem Ans (n:Nat) (s:St) (d:Option Tmp) (av:AV):(s.put n d av).res=s.res:=by
 cases d with
 | none=>rfl
 | some d=>unfold St.put; simp only; split<;>rfl
theorem Qu (h:B8 n B Iq s g a w) {av:AV} {v:Value} (d:Option Tmp) (hv:Ww s g w av v):B8 n B Iq (s.put n d av) g (a.put d v) w∧Go B Iq s g w (s.put n d av) g w:=by
 have hr:=Ans n s d av
 have hS:∀ b,Ev s g b→b < w.heap.size→Ev (s.put n d av) g b∧w.heap[b]? = w.heap[b]? := by
  intro b hb _
  refine ⟨⟨hb.1,fun id hl=>?_⟩,rfl⟩
  rw [hr] at hl
  exact hb.2 id hl
 have hI:∀ id,A0 s g (s.put n d av) g id:=fun id=>A0.same (by rw [hr]) rfl rfl
 refine ⟨h.step ?_ ?_ (Nat.le_refl _) hS hI (fun i=>?_) (fun id=>.inl ⟨by rw [hr],rfl,rfl,fun _ _=>rfl⟩) h.inj h.lt rfl,⟨Kp.refl B Iq w,hS,hI,rfl⟩⟩
 ·cases d with
  | none=>exact h.size
  | some d=>simp [Act.put,h.size]
 ·cases d with
  | none=>exact h.defers
  | some d=>exact h.defers
 ·cases d with
  | none=>exact .inl ⟨rfl,rfl⟩
  | some d=>
   by_cases hdn:Nat.blt d n=true
   ·have hlt:d < a.tmps.size:=by rw [h.size]; exact Nat.le_of_ble_eq_true hdn
    by_cases q:i=d
    ·subst q
     right
     have hc:(s.put n (some i) av).cell i=av:=by simp [St.put,St.setCell,hdn]
     rw [hc]
     have hv':Ww (s.put n (some i) av) g w av v:=Ww.step hS hI hv
     have:(a.put (some i) v).tmps.getD i undef=v:=by simp [Act.put,Array.getD,hlt]
     rw [this]
     exact hv'
    ·left
     refine ⟨by simp [St.put,St.setCell,hdn,Ay _ _ q],?_⟩
     simp [Act.put,Array.getD_eq_getD_getElem?,Array.getElem?_setIfInBounds_ne (Ne.symm q)]
   ·have hge:a.tmps.size≤d:=by
     rw [h.size]
     rcases Nat.lt_or_ge d n with q | q
     ·exact absurd (Nat.ble_eq_true_of_le q) hdn
     ·exact q
    left
    refine ⟨by simp [St.put,hdn],?_⟩
    simp [Act.put,Array.setIfInBounds_eq_of_size_le hge]
theorem N5.call {f:FuncId} {xs:List Operand} {o:Oper} (hc:N7 o=some (f,xs)) (hcal:Ky P f) {av:AV} {s':St} (h:Aca P f (xs.map a.eval).toArray n B Iq s g a w av s'):N5 P n B Iq s g a w o av s':=by
 obtain ⟨dst,op,type,pos,after,guard⟩:=o
 unfold N7 at hc
 split at hc
 ·rename_i c hop
  split at hc<;>cases hc
  rename_i hcallee
  obtain ⟨callee,args,argTypes⟩:=c
  simp only at hop hcallee
  subst hop hcallee
  intro K Q hK
  unfold Oper.wp
  rw [execOp_call_go,Agd hcal,Oper.upon_enter]
  have hargs:(#[]++args.map a.eval++#[]:Array Value)=(args.toList.map a.eval).toArray:=by
   apply Array.toList_inj.1
   simp
  rw [hargs]
  refine Calls.mono h fun en w'=>?_
  rintro ⟨v,g',rfl,k1,k2,k3⟩
  exact hK v g' w' k1 k2 k3
 ·cases hc
theorem A4n {T:Tb} (hs:A4 P T) (h:B8 n B Iq s g a w) {nid:Nat} {o:Oper} {cs:List Bool} {av:AV} {s':St} (e:A4m P T s nid o=some (cs,av,s')) (hcs:Rg cs=true):N5 P n B Iq s g a w o av s':=by
 unfold A4m at e
 split at e
 ·rename_i f xs hc
  split at e
  ·rename_i vs hvs
   obtain ⟨k1,k2⟩:=A03 hs h (Ab9 h hvs) e hcs
   exact N5.call hc k1 k2
  ·cases e
 ·exact Aw1 h (by rw [e]; simp [Nb,hcs])
theorem Ak4 {a b:List Bool}:Rg (a++b)=true→Rg a=true∧Rg b=true:=by
 induction a with
 | nil=>intro h; exact ⟨rfl,h⟩
 | cons x r ih=>
  intro h
  simp only [List.cons_append,Rg,Bool.and_eq_true] at h ⊢
  exact ⟨⟨h.1,(ih h.2).1⟩,(ih h.2).2⟩
theorem A04 {T:Tb} (hs:A4 P T) {ops:Array Oper} {Q:Exit→Act→World→Prop}:∀ {l:List Oper} {nid:Nat} {s:St} {g:Gh} {a:Act} {w:World} {cs:List Bool} {s':St},
  A6y P T n l nid s=some (cs,s')→Rg cs=true→B8 n B Iq s g a w→(∀ g' a' w',Go B Iq s g w s' g' w'→B8 n B Iq s' g' a' w'→Q .normal a' w')→wpList P ops Q l a w
 | [],nid,s,g,a,w,cs,s',e,hcs,h,hk=>by cases e; exact hk g a w (Go.refl _ _ _ _ _) h
 | o::l,nid,s,g,a,w,cs,s',e,hcs,h,hk=>by
  simp only [A6y] at e
  split at e
  ·cases e
  ·rename_i hg
   split at e
   ·rename_i cs1 av s1 e1
    split at e
    ·rename_i cs2 s2 e2
     cases e
     obtain ⟨b1,b2⟩:=Ak4 hcs
     unfold wpList
     have hw:Region.wanted o (yielded ops a.tmps)=true:=by unfold Region.wanted; rw [hg]
     rw [hw,if_pos rfl]
     left
     refine A4n hs h e1 b1 _ Q fun v g' w' k1 k2 k3=>?_
     obtain ⟨r1,r2⟩:=Qu k2 o.dst k3
     exact A04 hs e2 b2 r1 fun g2 a2 w2 q1 q2=>hk g2 a2 w2 ((k1.trans r2).trans q1) q2
    ·cases e
   ·cases e
def Bat (r:Bool):Exit:=bif r then .ret else .normal
theorem A60 {T:Tb} (hs:A4 P T):∀ (c:Code) {nid:Nat} {s:St} {g:Gh} {a:Act} {w:World} {cs:List Bool} {r:Bool} {s':St} {Q:Exit→Act→World→Prop},
  Art P T n c nid s=some (cs,r,s')→Rg cs=true→B8 n B Iq s g a w→(∀ g' a' w',Go B Iq s g w s' g' w'→B8 n B Iq s' g' a' w'→Q (Bat r) a' w')→c.wp P Q a w:=by
 intro c
 induction c with
 | skip=>intro nid s g a w cs r s' Q e hcs h hk; cases e; exact wp_skip (hk g a w (Go.refl _ _ _ _ _) h)
 | region id ops draw=>
  intro nid s g a w cs r s' Q e hcs h hk
  simp only [Art] at e
  cases draw with
  | true=>cases e
  | false=>
   simp only [cond_false] at e
   split at e
   ·rename_i cs1 s1 e1
    cases e
    exact wp_region_list (A04 hs e1 hcs h hk)
   ·cases e
 | seq x y ihx ihy=>
  intro nid s g a w cs r s' Q e hcs h hk
  simp only [Art] at e
  split at e
  ·rename_i cs1 s1 e1
   cases e
   exact wp_seq (ihx e1 hcs h fun g' a' w' k1 k2=>hk g' a' w' k1 k2)
  ·rename_i cs1 s1 e1
   split at e
   ·rename_i cs2 r2 s2 e2
    cases e
    obtain ⟨b1,b2⟩:=Ak4 hcs
    exact wp_seq (ihx e1 b1 h fun g' a' w' k1 k2=>ihy e2 b2 k2 fun g2 a2 w2 q1 q2=>hk g2 a2 w2 (k1.trans q1) q2)
   ·cases e
  ·cases e
 | cond c x y ihx ihy=>
  intro nid s g a w cs r s' Q e hcs h hk
  simp only [Art] at e
  split at e
  ·rename_i ht
   exact wp_cond_true (Dc h ht).1 (ihx e hcs h hk)
  ·rename_i ht
   exact wp_cond_false (Dc h ht).1 (ihy e hcs h hk)
  ·cases e
 | ret=>intro nid s g a w cs r s' Q e hcs h hk; cases e; exact wp_ret (hk g a w (Go.refl _ _ _ _ _) h)
 | _=>intros; rename_i e _ _ _; first | (cases e; done) | (simp [Art] at e; done)
theorem s9 (h:B8 n B Iq s g a w):∀ {rv:List ResultVar} {vs:List Vl},Qt P s rv=some vs→
  ∃ us,(rv.mapM fun x:ResultVar=>(match x with | .tmp t=>pure (a.tmps.getD t undef) | .cell b t=>do loadVar t (← asAddr (a.tmps.getD b undef)):Sem Value)).run P w=.ok us w∧VLR s g w vs us
 | [],vs,e=>by cases e; exact ⟨[],by simp,trivial⟩
 | .tmp t::r,vs,e=>by
  simp only [Qt] at e
  split at e
  ·rename_i v hv
   obtain ⟨vs',e1,rfl⟩:=Option.map_eq_some_iff.1 e
   obtain ⟨us,k1,k2⟩:=s9 h e1
   have k:=h.cell t
   rw [hv] at k
   refine ⟨a.tmps.getD t undef::us,?_,k,k2⟩
   simp only [List.mapM_cons,Sem.run_bind,Sem.run_pure,Result.andThen_ok]
   rw [k1]
   rfl
  ·cases e
 | .cell b t::r,vs,e=>by
  simp only [Qt] at e
  split at e
  ·rename_i v hv
   obtain ⟨vs',e1,rfl⟩:=Option.map_eq_some_iff.1 e
   obtain ⟨us,k1,k2⟩:=s9 h e1
   unfold An8 at hv
   obtain ⟨l,q1,hv⟩:=A7 hv
   obtain ⟨ls,q2,hv⟩:=A7 hv
   obtain ⟨hl,_⟩:=Dd h q1
   obtain ⟨ad,cs,hu,hL,hc⟩:=A8v h q2 hl
   obtain ⟨u,hr,hvv⟩:=Zb hv hL hc
   have hu':a.tmps.getD b undef=.pointer (some ad):=hu
   refine ⟨u::us,?_,hvv,k2⟩
   simp only [List.mapM_cons,Sem.run_bind,hu']
   have ha:(asAddr (.pointer (some ad)):Sem Addr).run P w=.ok ad w:=by simp [asAddr]
   rw [ha]
   simp only [Result.andThen_ok,hr,k1]
   rfl
  ·cases e
theorem Ak5 (h:B8 n B Iq s g a w) {fn:Func} {vs:List Vl} (e:Qt P s fn.results.toList=some vs):∃ us,(results fn a.tmps).run P w=.ok (Aus us) w∧VLR s g w vs us:=by
 obtain ⟨us,k1,k2⟩:=s9 h e
 refine ⟨us,?_,k2⟩
 unfold results
 rw [Array.mapM_eq_mapM_toList]
 simp only [Sem.run_bind,Sem.run_map]
 refine Eq.trans (congrArg (fun r:Result (List Value)=>(r.andThen fun a w'=>Result.ok a.toArray w').andThen fun a w'=>Sem.run P (pure (if h:a.size=1 then a[0] else Value.tuple a)) w') k1) ?_
 clear k1 k2
 match us with
 | []=>rfl
 | [u]=>rfl
 | u::v::us=>rfl
theorem A61 {T:Tb} (hs:A4 P T) (h:B8 n B Iq s g a w) {f:FuncId} {fn:Func} (hf:P.funcs[f]? = some fn) {vs:List Vl} {args:List Value} (hv:VLR s g w vs args) {nid:Nat} {av:AV} {s':St}
  (e:Nb (A6z P T fn vs s nid)=some (av,s')):Aca P f args.toArray n B Iq s g a w av s':=by
 obtain ⟨cs,e,hcs⟩:=Co e
 unfold A6z at e
 split at e
 ·cases e
 ·rename_i c hb
  cases hle:Nat.ble vs.length fn.ntmps with
  | false=>rw [hle] at e; cases e
  | true=>
   rw [hle] at e
   simp only [cond_true] at e
   have hle:=Nat.le_of_ble_eq_true hle
   split at e
   ·rename_i cs1 r1 s1 e1
    split at e
    ·rename_i vs' e2
     cases e
     have hlen:=hv.length
     have hent:B8 fn.ntmps B Iq (Au6 s vs) g { tmps:=args.toArray++Array.replicate (fn.ntmps - args.toArray.size) undef,defers:=[] } w:=by
      refine ⟨by simp; omega,rfl,h.base,fun i=>?_,fun id=>?_,h.inj,h.lt,h.avB⟩
      ·show Ww _ _ _ (match vs[i]? with | some v=>.vl v | none=>.dead) _
       cases hi:vs[i]? with
       | none=>trivial
       | some v=>
        obtain ⟨u,q1,q2⟩:=hv.get hi
        have hlt:=(List.getElem?_eq_some_iff.1 q1).1
        have:(args.toArray++Array.replicate (fn.ntmps - args.toArray.size) undef).getD i undef=u:=by
         rw [Array.getD_eq_getD_getElem?,Array.getElem?_append_left (by simpa using hlt),List.getElem?_toArray,q1]
         rfl
        rw [this]
        exact VlR.step (s:=s) (s':=Au6 s vs) (g:=g) (g':=g) (w:=w) (w':=w) (fun b hb _=>⟨hb,rfl⟩) (fun _=>A0.same rfl rfl rfl) q2
      ·exact L4.step (s:=s) (s':=Au6 s vs) (g:=g) (g':=g) (w:=w) (w':=w) (fun b hb _=>⟨hb,rfl⟩) (fun _=>A0.same rfl rfl rfl) rfl rfl (fun _ _=>rfl) (h.res id)
     refine calls_of_wp hf hb ?_
     refine A60 hs c e1 hcs hent fun g' a' w' k1 k2=>?_
     obtain ⟨us,q1,q2⟩:=Ak5 k2 e2
     have hgo:Go B Iq s g w ⟨s.cell,s1.res⟩ g' w':=⟨k1.kp,fun b hb hl=>k1.S b hb hl,fun id=>k1.ref id,k1.av⟩
     have hrel:B8 n B Iq ⟨s.cell,s1.res⟩ g' a w':=by
      refine h.step h.size h.defers k1.kp.size (fun b hb hl=>hgo.S b hb hl) (fun id=>hgo.ref id) (fun i=>.inl ⟨rfl,rfl⟩) (fun id=>.inr ?_) k2.inj (fun i b hi=>⟨(k2.lt i b hi).1,(k2.lt i b hi).2.1,by rw [← k1.av]; exact (k2.lt i b hi).2.2⟩) k1.av
      exact L4.step (s:=s1) (s':=⟨s.cell,s1.res⟩) (g:=g') (g':=g') (w:=w') (w':=w') (fun b hb _=>⟨hb,rfl⟩) (fun _=>A0.same rfl rfl rfl) rfl rfl (fun _ _=>rfl) (k2.res id)
     have hav:Ww ⟨s.cell,s1.res⟩ g' w' (Aze vs') (Aus us):=Ww.step (s:=s1) (s':=⟨s.cell,s1.res⟩) (g:=g') (g':=g') (w:=w') (w':=w') (fun b hb _=>⟨hb,rfl⟩) (fun _=>A0.same rfl rfl rfl) (A4e q2)
     cases r1
     ·exact ⟨k2.defers,_,q1,_,g',rfl,hgo,hrel,hav⟩
     ·exact ⟨k2.defers,_,q1,_,g',rfl,hgo,hrel,hav⟩
    ·cases e
   ·cases e
theorem A4o:∀ {ls:List Lf} {cs:List Value},Hj s g w ls cs→VLR s g w (A6x ls) cs
 | [],[],_=>trivial
 | [],_::_,h=>h.elim
 | _::_,[],h=>h.elim
 | _::_,_::_,h=>⟨h.1,A4o h.2⟩
theorem VLR.append:∀ {vs vs':List Vl} {us us':List Value},VLR s g w vs us→VLR s g w vs' us'→VLR s g w (vs++vs') (us++us')
 | [],_,[],_,_,h'=>h'
 | [],_,_::_,_,h,_=>h.elim
 | _::_,_,[],_,h,_=>h.elim
 | _::_,_,_::_,_,h,h'=>⟨h.1,VLR.append h.2 h'⟩
theorem u3 {sigs:Tb} (hs:A4 P sigs) (h:B8 n B Iq s g a w) {nid:Nat} {o:Oper} {av:AV} {s':St} (e:S5 P sigs s nid o=some (av,s')):N5 P n B Iq s g a w o av s':=by
 unfold S5 at e
 split at e
 ·rename_i f xs hc
  split at e
  ·rename_i vs hvs
   have hV:=Ab9 h hvs
   split at e
   ·rename_i sd hsd
    obtain ⟨hcal,hsound⟩:=hs.sd f sd hsd
    exact N5.call hc hcal (As1 h hsound hV e)
   ·split at e
    ·rename_i fn hfn
     obtain ⟨q1,q2,q3⟩:=hs.inl f fn hfn
     exact N5.call hc ⟨fn,q1,q2,q3⟩ (A61 hs h q1 hV e)
    ·obtain ⟨cs,e1,hcs⟩:=Co e
     obtain ⟨q1,q2⟩:=A03 hs h hV e1 hcs
     exact N5.call hc q1 q2
  ·cases e
 ·split at e
  ·rename_i f xs ls hc
   split at e
   ·rename_i vs hvs
    split at e
    ·rename_i sd hsd
     obtain ⟨hcal,hsound⟩:=hs.sd f sd hsd
     obtain ⟨dst,op,type,pos,after,guard⟩:=o
     unfold Agc at hc
     split at hc
     ·rename_i c hop
      split at hc
      ·rename_i t hcallee
       split at hc<;>cases hc
       rename_i hcell
       obtain ⟨callee,args,argTypes⟩:=c
       simp only at hop hcallee
       subst hop hcallee
       have k:=h.cell t
       rw [hcell] at k
       obtain ⟨caps,hu,hL⟩:=k
       have hu':a.eval (.tmp t)=.func (.func f) #[] caps:=hu
       intro K Q hK
       unfold Oper.wp
       have hex:execOp a.eval ⟨dst,.call ⟨.value (.tmp t),args,argTypes⟩,type,pos,after,guard⟩=callFunc f (#[]++args.map a.eval++caps):=by
        simp only [execOp,resolve,hu',Deferred.ofValue]
        rfl
       rw [hex,Agd hcal,Oper.upon_enter]
       have hargs:(#[]++args.map a.eval++caps:Array Value)=(args.toList.map a.eval++caps.toList).toArray:=by
        apply Array.toList_inj.1
        simp
       rw [hargs]
       refine Calls.mono (As1 h hsound (VLR.append (Ab9 h hvs) (A4o hL)) e) fun en w'=>?_
       rintro ⟨v,g',rfl,k1,k2,k3⟩
       exact hK v g' w' k1 k2 k3
      ·cases hc
     ·cases hc
    ·cases e
   ·cases e
  ·exact Aw1 h e
end
end
section
def Aej:Lf→List Nat
 | .row id=>[id]
 | .ptr id _=>[id]
 | .rp id _ _=>[id]
 | .sp id=>[id]
 | _=>[]
def Zj:List Lf→List Nat
 | []=>[]
 | l::r=>Aej l++Zj r
def Aov (v:Vl):List Nat:=Zj v.ls
def Ant:List Vl→List Nat
 | []=>[]
 | v::r=>Aov v++Ant r
def N8:AV→List Nat
 | .dead=>[]
 | .vl v=>Aov v
 | .tp vs=>Ant vs
 | .fn _ ls=>Zj ls
def Zk:Qs→List Nat
 | .box _ ls=>Zj ls
 | _=>[]
def Aow:Qs→List Nat
 | .last _ _ _ _ j=>[j]
 | _=>[]
def L7:List Operand→List Nat
 | []=>[]
 | .tmp t::r=>t::L7 r
 | _::r=>L7 r
def D0 (o:Oper):List Nat:=L7 o.op.operands.toList
def Lh (l:List Nat) (i:Nat):Bool:=match l with
 | []=>false
 | j::r=>Nat.beq j i || Lh r i
theorem Cu {l:List Nat} {i:Nat}:Lh l i=true↔i∈l:=by
 induction l with
 | nil=>simp [Lh]
 | cons j r ih=>
  simp only [Lh,Bool.or_eq_true,ih,List.mem_cons,Nat.beq_eq]
  constructor
  ·rintro (h | h)
   ·exact .inl h.symm
   ·exact .inr h
  ·rintro (h | h)
   ·exact .inl h.symm
   ·exact .inr h
def If (s:St):List Nat→List Nat
 | []=>[]
 | i::r=>N8 (s.cell i)++If s r
def Kf (s:St):List Nat→List Nat
 | []=>[]
 | i::r=>Zk (s.res i)++Kf s r
def Age (s:St) (sl:List Nat):List Nat:=
 let l0:=If s sl
 let l1:=l0++Kf s l0
 l1++Kf s l1
def Aek (s:St):List Nat→List Nat
 | []=>[]
 | i::r=>Aow (s.res i)++Aek s r
def N9 (o:Oper):Bool:=match o.op with
 | .move x=>!Ak3 x
 | .assign x=>!Ak3 x
 | .indexAddr _ _ _=>true
 | .call c=>(match c.callee with
  | .builtin .len=>true
  | _=>false)
 | _=>false
def Aru (o:Oper):Bool:=match o.op with
 | .move x=>!Ak3 x
 | .assign x=>!Ak3 x
 | _=>false
theorem A4p {o:Oper} (h:Aru o=true):N9 o=true:=by
 unfold Aru at h
 unfold N9
 split at h
 ·rename_i q; rw [q]; exact h
 ·rename_i q; rw [q]; exact h
 ·cases h
def S7 (s:St) (o:Oper):List Nat:=if Aru o then [] else if N9 o then Age s (D0 o) else Age s (D0 o)++Aek s (Age s (D0 o))
def Agf (l m:List Nat):Bool:=match l with
 | []=>true
 | i::r=>Lh m i&&Agf r m
theorem Ai6 {l m:List Nat}:Agf l m=true↔∀ i∈l,i∈m:=by
 induction l with
 | nil=>simp [Agf]
 | cons j r ih=>simp [Agf,Cu,ih]
def Aox:Nat:=4
def N2 (nid:Nat):List Nat:=[nid,nid + 1,nid + 2,nid + 3]
def St.view (s:St) (sl ids:List Nat):St:=⟨fun i=>if Lh sl i then s.cell i else .dead,fun id=>if Lh ids id then s.res id else .unborn⟩
def St.lay (s v:St) (m:List Nat):St:=⟨s.cell,fun id=>if Lh m id then v.res id else s.res id⟩
def Sq (o:Oper) (s:St) (m:List Nat):Bool:=Agf (Kf s m) m&&(N9 o || Agf (Aek s m) m)
def Ac7 (P:Program) (sigs:Tb) (s:St) (nid:Nat) (o:Oper):Option (AV×St):=
 let sl:=D0 o
 let ids:=S7 s o
 if Pt s nid Aox then (if Sq o s ids then (S5 P sigs (s.view sl ids) nid o).bind fun p=>
  if Aru o || Agf (N8 p.1) (ids++N2 nid) then (if Sq o p.2 (ids++N2 nid) then some p else none) else none
 else none) else none
section
variable {P:Program} {n B:Nat} {Iq:List Nat} {s:St} {g:Gh} {a:Act} {w:World}
theorem u5 (h:∀ id,L4 s g w id (s.res id)) {id b:Nat} (hb:g.blk id=some b):(s.res id).live=true:=by
 have r:=h id
 cases hr:s.res id with
 | box T ls=>rfl
 | row e t xs=>rfl
 | unborn=>rw [hr] at r; exact absurd (hb.symm.trans r) (by simp)
 | dead=>rw [hr] at r; exact absurd (hb.symm.trans r) (by simp)
 | frozen t xs=>rw [hr] at r; exact absurd (hb.symm.trans r.2) (by simp)
 | last _ _ _ _ _=>rfl
 | map _ _=>rfl
 | iter _ _ _ _=>rfl
theorem Dr.part {s s':St} {g g':Gh} {w:World} {m:List Nat} (hS:∀ b,Ev s g b→b < w.heap.size→Ev s' g' b) (hm:∀ id∈m,s'.res id=s.res id∧g'.blk id=g.blk id∧g'.hdr id=g.hdr id):
  ∀ {l:Lf} {u:Value},(∀ id∈Aej l,id∈m)→Dr s g w l u→Dr s' g' w l u
 | .c _,_,_,h=>h
 | .sl _ _,_,_,h=>Ty.K_keep (fun b hb hl=>⟨hS b hb hl,rfl⟩) h
 | .row id,u,hi,h=>by
  obtain ⟨e1,e2,e3⟩:=hm id (hi id (by simp [Aej]))
  simp only [Dr] at h ⊢
  rw [e1,e3]
  exact h
 | .ptr id off,u,hi,h=>by
  obtain ⟨e1,e2,e3⟩:=hm id (hi id (by simp [Aej]))
  simp only [Dr] at h ⊢
  rw [e1,e2]
  exact h
 | .ep t xs i off,u,_,⟨ad,cs,h1,h2,h3,h4,h5⟩=>⟨ad,cs,h1,hS _ h2 h3,h3,Ty.K_keep (fun b hb hl=>⟨hS b hb hl,rfl⟩) h4,h5⟩
 | .rp id i off,u,hi,h=>by
  obtain ⟨e1,e2,e3⟩:=hm id (hi id (by simp [Aej]))
  simp only [Dr] at h ⊢
  rw [e1,e2]
  exact h
 | .sp id,u,hi,h=>by
  obtain ⟨e1,e2,e3⟩:=hm id (hi id (by simp [Aej]))
  simp only [Dr] at h ⊢
  rw [e1,e2]
  exact h
section
variable {s':St} {g':Gh} {m:List Nat} (hS:∀ b,Ev s g b→b < w.heap.size→Ev s' g' b) (hm:∀ id∈m,s'.res id=s.res id∧g'.blk id=g.blk id∧g'.hdr id=g.hdr id)
 include hS hm
theorem Hj.part:∀ {ls:List Lf} {cs:List Value},(∀ id∈Zj ls,id∈m)→Hj s g w ls cs→Hj s' g' w ls cs
 | [],[],_,_=>trivial
 | [],_::_,_,h=>h.elim
 | _::_,[],_,h=>h.elim
 | l::ls,_::_,hi,h=>⟨⟨Dr.part hS hm (fun id q=>hi id (by simp [Zj,q])) h.1.1,h.1.2⟩,Hj.part (fun id q=>hi id (by simp [Zj,q])) h.2⟩
theorem VlR.part {v:Vl} {u:Value} (hi:∀ id∈Aov v,id∈m) (h:VlR s g w v u):VlR s' g' w v u:=by
 cases v with
 | lf l=>exact ⟨Dr.part hS hm (fun id q=>hi id (by simp [Aov,Vl.ls,Zj,q])) h.1,h.2⟩
 | ag ls=>
  obtain ⟨cs,e,hL⟩:=h
  exact ⟨cs,e,Hj.part hS hm hi hL⟩
theorem Ww.part {v:AV} {u:Value} (hi:∀ id∈N8 v,id∈m) (h:Ww s g w v u):Ww s' g' w v u:=by
 cases v with
 | dead=>trivial
 | vl v=>exact VlR.part hS hm hi h
 | tp vs=>
  obtain ⟨us,h1,h2,h3⟩:=h
  refine ⟨us,h1,h2,fun j l hl=>?_⟩
  obtain ⟨v,e1,e2⟩:=h3 j l hl
  refine ⟨v,e1,VlR.part hS hm (fun id q=>hi id ?_) e2⟩
  have hmem:=List.mem_of_getElem? hl
  clear h1 h2 h3 hl e1 e2 hi
  induction vs with
  | nil=>cases hmem
  | cons x r ih=>
   rcases List.mem_cons.1 hmem with rfl | hmem
   ·simp [N8,Ant,q]
   ·have:=ih hmem
    simp only [N8,Ant,List.mem_append] at this ⊢
    exact .inr this
 | fn f ls=>
  obtain ⟨cs,h1,h2⟩:=h
  exact ⟨cs,h1,Hj.part hS hm hi h2⟩
theorem L4.part {id:Nat} (hid:id∈m) {r:Qs} (hi:∀ j∈Zk r,j∈m) (hwk:∀ j∈Aow r,j∈m) (h:L4 s g w id r):L4 s' g' w id r:=by
 obtain ⟨e1,e2,e3⟩:=hm id hid
 cases r with
 | unborn=>exact e2.trans h
 | dead=>exact e2.trans h
 | box T ls=>
  obtain ⟨b,cs,h1,h2,h3⟩:=h
  exact ⟨b,cs,e2.trans h1,h2,Hj.part hS hm hi h3⟩
 | row e t xs=>
  obtain ⟨cs,h1,h2,h3⟩:=h
  exact ⟨cs,by rw [e3]; exact h1,h2.imp hS,by rw [e2,e3]; exact h3⟩
 | frozen t xs=>
  obtain ⟨h1,h2⟩:=h
  exact ⟨by rw [e3]; exact Ty.K_keep (fun b hb hl=>⟨hS b hb hl,rfl⟩) h1,e2.trans h2⟩
 | last e t xs c j=>
  obtain ⟨cs,h1,h2,h3,h4⟩:=h
  obtain ⟨q1,q2,q3⟩:=hm j (hwk j (by simp [Aow]))
  refine ⟨cs,by rw [e3]; exact h1,h2.imp hS,by rw [e2,e3]; exact h3,fun u hc hu=>?_⟩
  rw [q1,q3]
  exact h4 u hc hu
 | map t xs=>
  obtain ⟨b,es,clock,h1,h2,h3⟩:=h
  exact ⟨b,es,clock,e2.trans h1,e3.trans h2,h3⟩
 | iter t xs seen cur=>
  obtain ⟨b,r,es,clock,since,c0,sn,h1,h2,h3,h4,h5,h6⟩:=h
  exact ⟨b,r,es,clock,since,c0,sn,e2.trans h1,e3.trans h2,h3,hS b h4 h5,h5,h6⟩
end
theorem Aoy {i id:Nat}:∀ {l:List Nat},i∈l→id∈Aow (s.res i)→id∈Aek s l
 | j::r,h,q=>by
  rcases List.mem_cons.1 h with rfl | h
  ·exact List.mem_append_left _ q
  ·exact List.mem_append_right _ (Aoy h q)
def Gh.view (s:St) (g:Gh) (ids:List Nat):Gh:=⟨fun id=>if Lh ids id then g.blk id else none,g.hdr,fun b=>g.av b∨∃ id,id ∉ ids∧g.blk id=some b⟩
theorem Ac8 {i id:Nat}:∀ {sl:List Nat},i∈sl→id∈N8 (s.cell i)→id∈If s sl
 | j::r,h,q=>by
  rcases List.mem_cons.1 h with rfl | h
  ·exact List.mem_append_left _ q
  ·exact List.mem_append_right _ (Ac8 h q)
theorem Ak6 {i id:Nat}:∀ {l:List Nat},i∈l→id∈Zk (s.res i)→id∈Kf s l
 | j::r,h,q=>by
  rcases List.mem_cons.1 h with rfl | h
  ·exact List.mem_append_left _ q
  ·exact List.mem_append_right _ (Ak6 h q)
theorem A4q {sl ids:List Nat} (b:Nat) (hb:Ev s g b) (hres:∀ id,L4 s g w id (s.res id)):Ev (s.view sl ids) (g.view s ids) b:=by
 refine ⟨?_,fun id hl hk=>?_⟩
 ·rintro (q | ⟨id,q1,q2⟩)
  ·exact hb.1 q
  ·exact hb.2 id (u5 hres q2) q2
 ·simp only [Gh.view] at hk
  split at hk
  ·rename_i hid
   exact hb.2 id (u5 hres hk) hk
  ·cases hk
theorem A4r (h:B8 n B Iq s g a w) {sl ids:List Nat} (hc:∀ i∈sl,∀ id∈N8 (s.cell i),id∈ids) (hr:∀ i∈ids,∀ id∈Zk (s.res i),id∈ids) (hw:∀ i∈ids,∀ id∈Aow (s.res i),id∈ids):
  B8 n w.heap.size (ids.filterMap g.blk) (s.view sl ids) (g.view s ids) a w:=by
 have hS:∀ b,Ev s g b→b < w.heap.size→Ev (s.view sl ids) (g.view s ids) b:=fun b hb _=>A4q b hb h.res
 have hm:∀ id∈ids,(s.view sl ids).res id=s.res id∧(g.view s ids).blk id=g.blk id∧(g.view s ids).hdr id=g.hdr id:=by
  intro id hid
  have:=Cu.2 hid
  refine ⟨?_,?_,rfl⟩
  ·simp [St.view,this]
  ·simp [Gh.view,this]
 refine ⟨h.size,h.defers,Nat.le_refl _,fun i=>?_,fun id=>?_,fun id id' b q1 q2=>?_,fun id b q=>?_,fun b q=>?_⟩
 ·show Ww _ _ _ (if Lh sl i then s.cell i else .dead) _
  split
  ·rename_i hi
   exact Ww.part hS hm (hc i (Cu.1 hi)) (h.cell i)
  ·trivial
 ·by_cases hid:id∈ids
  ·rw [(hm id hid).1]
   exact L4.part hS hm hid (hr id hid) (hw id hid) (h.res id)
  ·have hf:Lh ids id=false:=by
    cases hq:Lh ids id
    ·rfl
    ·exact absurd (Cu.1 hq) hid
   have:(s.view sl ids).res id=.unborn:=by simp [St.view,hf]
   rw [this]
   show (g.view s ids).blk id=none
   simp [Gh.view,hf]
 ·simp only [Gh.view] at q1 q2
  split at q1
  ·split at q2
   ·exact h.inj id id' b q1 q2
   ·cases q2
  ·cases q1
 ·simp only [Gh.view] at q
  split at q
  ·rename_i hid
   have hid:=Cu.1 hid
   refine ⟨(h.lt id b q).1,.inl (List.mem_filterMap.2 ⟨id,hid,q⟩),?_⟩
   rintro (q2 | ⟨j,q2,q3⟩)
   ·exact (h.lt id b q).2.2 q2
   ·exact q2 (by rw [h.inj j id b q3 q]; exact hid)
  ·cases q
 ·rcases q with q | ⟨id,q1,q2⟩
  ·have:=h.avB b q
   have:=h.base
   omega
  ·exact (h.lt id b q2).1
theorem Aw2 {l m:List Nat} (h:Agf (Kf s l) m=true):∀ i∈l,∀ id∈Zk (s.res i),id∈m:=
 fun i hi id hid=>Ai6.1 h id (Ak6 hi hid)
theorem Ak7 {sl:List Nat}:∀ i∈sl,∀ id∈N8 (s.cell i),id∈Age s sl:=
 fun i hi id hid=>List.mem_append_left _ (List.mem_append_left _ (Ac8 hi hid))
theorem Ael {nid:Nat} (h:Pt s nid Aox=true):∀ id∈N2 nid,s.res id=.unborn:=by
 intro id hid
 have:nid≤id∧id < nid + 4:=by
  simp only [N2,List.mem_cons,List.not_mem_nil,or_false] at hid
  omega
 exact Aok h id this.1 this.2
theorem A82 (h:B8 n B Iq s g a w) {sl ids:List Nat} {nid:Nat} {v':St} {gv':Gh} {w':World} {av:AV} (hfr:∀ id∈N2 nid,s.res id=.unborn)
  (hgo:Go w.heap.size (ids.filterMap g.blk) (s.view sl ids) (g.view s ids) w v' gv' w') (hR:B8 n w.heap.size (ids.filterMap g.blk) v' gv' a w')
  (hav:∀ id∈N8 av,id∈ids++N2 nid) (hres:∀ i∈ids++N2 nid,∀ id∈Zk (v'.res i),id∈ids++N2 nid) (hwk:∀ i∈ids++N2 nid,∀ id∈Aow (v'.res i),id∈ids++N2 nid):
  ∃ g',Go B Iq s g w (s.lay v' (ids++N2 nid)) g' w'∧B8 n B Iq (s.lay v' (ids++N2 nid)) g' a w'∧∀ u,Ww v' gv' w' av u→Ww (s.lay v' (ids++N2 nid)) g' w' av u:=by
 generalize hm:ids++N2 nid=m at hav hres hwk ⊢
 have hidm:∀ id∈ids,id∈m:=fun id q=>by rw [← hm]; exact List.mem_append_left _ q
 have hmem:∀ id∈m,id∈ids∨id∈N2 nid:=fun id q=>by rw [← hm] at q; exact List.mem_append.1 q
 have hin:∀ id,Lh m id=true↔id∈m:=fun id=>Cu
 have hout:∀ {id},id ∉ m→Lh m id=false:=fun {id} q=>by
  cases hq:Lh m id
  ·rfl
  ·exact absurd ((hin id).1 hq) q
 refine ⟨⟨fun id=>if Lh m id then gv'.blk id else g.blk id,fun id=>if Lh m id then gv'.hdr id else g.hdr id,g.av⟩,?_⟩
 generalize hg':(⟨fun id=>if Lh m id then gv'.blk id else g.blk id,fun id=>if Lh m id then gv'.hdr id else g.hdr id,g.av⟩:Gh)=g'
 generalize hs':s.lay v' m=s'
 have e1:∀ id∈m,s'.res id=v'.res id∧g'.blk id=gv'.blk id∧g'.hdr id=gv'.hdr id:=by
  intro id hid
  have:=(hin id).2 hid
  subst hs' hg'
  simp [St.lay,this]
 have e2:∀ id,id ∉ m→s'.res id=s.res id∧g'.blk id=g.blk id∧g'.hdr id=g.hdr id:=by
  intro id hid
  have:=hout hid
  subst hs' hg'
  simp [St.lay,this]
 have ecell:s'.cell=s.cell:=by subst hs'; rfl
 have eav:g'.av=g.av:=by subst hg'; rfl
 have eavv:gv'.av=(g.view s ids).av:=hgo.av
 have liveBlk:∀ id b,g.blk id=some b→(s.res id).live=true:=fun id b q=>u5 h.res q
 have hS2:∀ b,Ev v' gv' b→b < w'.heap.size→Ev s' g' b:=by
  rintro b ⟨q1,q2⟩ _
  rw [eavv] at q1
  refine ⟨by rw [eav]; exact fun q=>q1 (.inl q),fun id hl hk=>?_⟩
  by_cases hid:id∈m
  ·obtain ⟨a1,a2,a3⟩:=e1 id hid
   rw [a1] at hl
   rw [a2] at hk
   exact q2 id hl hk
  ·obtain ⟨a1,a2,a3⟩:=e2 id hid
   rw [a2] at hk
   exact q1 (.inr ⟨id,fun q=>hid (hidm id q),hk⟩)
 have hS:∀ b,Ev s g b→b < w.heap.size→Ev s' g' b∧w'.heap[b]? = w.heap[b]? := by
  intro b hb hlt
  obtain ⟨k1,k2⟩:=hgo.S b (A4q b hb h.res) hlt
  exact ⟨hS2 b k1 (Nat.lt_of_lt_of_le hlt hgo.kp.size),k2⟩
 have hI:∀ id,A0 s g s' g' id:=by
  intro id
  by_cases hid:id∈m
  ·obtain ⟨a1,a2,a3⟩:=e1 id hid
   rcases hmem id hid with q | q
   ·have r:=hgo.ref id
    unfold A0 at r ⊢
    have hq:=Cu.2 q
    have v1:(s.view sl ids).res id=s.res id:=by simp [St.view,hq]
    have v2:(g.view s ids).blk id=g.blk id:=by simp [Gh.view,hq]
    rw [v1,v2] at r
    rw [a1,a2,a3]
    exact r
   ·unfold A0
    rw [hfr id q]
    exact .inr trivial
  ·obtain ⟨a1,a2,a3⟩:=e2 id hid
   exact A0.same a1 a2 a3
 have hKp:Kp B Iq w w':=⟨hgo.kp.os,hgo.kp.tape,hgo.kp.output,hgo.kp.size,fun k hk hkI=>by
  refine hgo.kp.block k (Nat.lt_of_lt_of_le hk h.base) (fun q=>?_)
  obtain ⟨id,q1,q2⟩:=List.mem_filterMap.1 q
  rcases (h.lt id k q2).2.1 with q3 | q3
  ·exact hkI q3
  ·omega⟩
 refine ⟨⟨hKp,hS,hI,eav⟩,?_,fun u hu=>Ww.part hS2 e1 hav hu⟩
 refine h.step h.size h.defers hgo.kp.size hS hI (fun i=>.inl ⟨by rw [ecell],rfl⟩) (fun j=>?_) (fun i j b hi hj=>?_) (fun i b hi=>?_) eav
 ·by_cases hj:j∈m
  ·right
   rw [(e1 j hj).1]
   exact L4.part hS2 e1 hj (hres j hj) (hwk j hj) (hR.res j)
  ·left
   obtain ⟨a1,a2,a3⟩:=e2 j hj
   refine ⟨a1,a2,a3,fun b hb=>hgo.kp.block b (h.lt j b hb).1 (fun q=>?_)⟩
   obtain ⟨id,q1,q2⟩:=List.mem_filterMap.1 q
   exact hj (by rw [h.inj j id b hb q2]; exact hidm id q1)
 ·have far:∀ i j b,i∈m→g'.blk i=some b→j ∉ m→g'.blk j=some b→False:=by
   intro i j b him hi hjm hj
   rw [(e1 i him).2.1] at hi
   rw [(e2 j hjm).2.1] at hj
   refine (hR.lt i b hi).2.2 ?_
   rw [eavv]
   exact .inr ⟨j,fun q=>hjm (hidm j q),hj⟩
  by_cases him:i∈m<;>by_cases hjm:j∈m
  ·rw [(e1 i him).2.1] at hi
   rw [(e1 j hjm).2.1] at hj
   exact hR.inj i j b hi hj
  ·exact (far i j b him hi hjm hj).elim
  ·exact (far j i b hjm hj him hi).elim
  ·rw [(e2 i him).2.1] at hi
   rw [(e2 j hjm).2.1] at hj
   exact h.inj i j b hi hj
 ·by_cases him:i∈m
  ·rw [(e1 i him).2.1] at hi
   obtain ⟨k1,k2,k3⟩:=hR.lt i b hi
   rw [eavv] at k3
   refine ⟨k1,?_,fun q=>k3 (.inl q)⟩
   rcases k2 with k2 | k2
   ·obtain ⟨id,q1,q2⟩:=List.mem_filterMap.1 k2
    exact (h.lt id b q2).2.1
   ·exact .inr (Nat.le_trans h.base k2)
  ·rw [(e2 i him).2.1] at hi
   obtain ⟨k1,k2⟩:=h.lt i b hi
   exact ⟨Nat.lt_of_lt_of_le k1 hgo.kp.size,k2⟩
theorem As8 {o:Oper} {m:List Nat} (h:Sq o s m=true):(∀ i∈m,∀ id∈Zk (s.res i),id∈m)∧(N9 o=false→∀ i∈m,∀ id∈Aow (s.res i),id∈m):=by
 simp only [Sq,Bool.and_eq_true,Bool.or_eq_true] at h
 refine ⟨Aw2 h.1,fun hl i hi id hid=>?_⟩
 rcases h.2 with q | q
 ·rw [hl] at q; cases q
 ·exact Ai6.1 q id (Aoy hi hid)
theorem Aoz {o:Oper} (hm:Aru o=false):∀ i∈D0 o,∀ id∈N8 (s.cell i),id∈S7 s o:=fun i hi id hid=>by
 unfold S7
 rw [hm]
 simp only [Bool.false_eq_true,if_false]
 split
 ·exact Ak7 i hi id hid
 ·exact List.mem_append_left _ (Ak7 i hi id hid)
section
variable {s t:St}
theorem Agg {x:Operand} (h:∀ i∈L7 [x],s.cell i=t.cell i):s.op x=t.op x:=by
 cases x with
 | tmp i=>exact h i (by simp [L7])
 | const v=>rfl
 | global _=>rfl
 | func _=>rfl
theorem As9 {x:Operand} (h:s.op x=t.op x):s.leaf x=t.leaf x:=by unfold St.leaf; rw [h]
theorem Ai7 {x:Operand} (h:s.op x=t.op x):s.conc x=t.conc x:=by unfold St.conc; rw [h]
theorem Aw3 {x:Operand} {id:Nat} (h:s.leaf x=some (.row id)):∃ i∈L7 [x],id∈N8 (s.cell i):=by
 cases x with
 | tmp i=>
  refine ⟨i,by simp [L7],?_⟩
  unfold St.leaf at h
  simp only [St.op] at h
  split at h
  ·rename_i l hl
   cases h
   rw [hl]
   simp [N8,Aov,Vl.ls,Zj,Aej]
  ·cases h
 | const v=>
  unfold St.leaf at h
  simp only [St.op] at h
  split at h
  ·rename_i l hl
   cases h
   unfold Anj at hl
   split at hl
   ·split at hl<;>cases hl
   ·cases hl
   ·cases hl
  ·cases h
 | global _=>cases h
 | func _=>cases h
theorem Agh {x:Operand} (h:s.leaf x=t.leaf x) (hr:∀ id,s.leaf x=some (.row id)→s.res id=t.res id):Ab6 s x=Ab6 t x:=by
 unfold Ab6
 rw [← h]
 split
 ·rename_i id hl
  rw [hr id hl]
 ·rfl
theorem A05 {x:Operand} (h:s.leaf x=t.leaf x) (hr:∀ id,s.leaf x=some (.row id)→s.res id=t.res id):(s.leaf x).bind s.sl=(t.leaf x).bind t.sl:=by
 rw [← h]
 cases hl:s.leaf x with
 | none=>rfl
 | some l=>
  cases l with
  | row id=>simp only [Option.bind_some,St.sl]; rw [hr id hl]
  | _=>rfl
theorem Arv {T:TypeId} {x y:Operand} (h:s.leaf x=t.leaf x) (hr:∀ id,s.leaf x=some (.row id)→s.res id=t.res id) (hy:s.conc y=t.conc y):Xf P s T x y=Xf P t T x y:=by
 unfold Xf
 rw [← h,← hy]
 split
 ·split
  ·rename_i id _ _ _ hl _
   rw [hr _ hl]
  ·rfl
 ·rfl
theorem Aw4 {T:TypeId} {x:Operand} (h:s.leaf x=t.leaf x) (hr:∀ id,s.leaf x=some (.row id)→s.res id=t.res id):Aiw P s T x=Aiw P t T x:=by
 unfold Aiw
 rw [← h]
 split
 ·split
  ·rename_i id hl
   rw [hr _ hl]
  ·rfl
 ·rfl
end
theorem Agi {s t:St} {T:TypeId} {x y:Operand} (h:s.leaf x=t.leaf x) (hr:∀ id,s.leaf x=some (.row id)→s.res id=t.res id) (hy:s.conc y=t.conc y):L6 P s T x y=L6 P t T x y:=by
 unfold L6
 rw [A05 h hr,hy]
theorem Azj {s t:St} {T:TypeId} {x:Operand} (h:s.leaf x=t.leaf x) (hr:∀ id,s.leaf x=some (.row id)→s.res id=t.res id) (hy:s.conc x=t.conc x):Asu P s T x=Asu P t T x:=by
 unfold Asu
 rw [A05 h hr,hy]
theorem Aw5 {s t:St} {X:Option (List Bool×Lf)} {av:AV} {v':St} (e:Nb (lfC t X)=some (av,v')):v'=t∧Nb (lfC s X)=some (av,s):=by
 cases X with
 | none=>cases e
 | some p=>
  simp only [lfC,Nb] at e ⊢
  split at e<;>cases e
  rename_i hq
  exact ⟨rfl,by rw [if_pos hq]⟩
theorem Anu {s t:St} {X:Option Value} {av:AV} {v':St} (e:Nb (v0 t X)=some (av,v')):v'=t∧Nb (v0 s X)=some (av,s):=by
 cases X with
 | none=>cases e
 | some p=>
  simp only [v0,Nb] at e ⊢
  split at e<;>cases e
  rename_i hq
  exact ⟨rfl,by rw [if_pos hq]⟩
theorem Agj {s t:St}:∀ {l:List Operand},(∀ y∈l,s.conc y=t.conc y)→Y5 s l=Y5 t l
 | [],_=>rfl
 | y::r,h=>by
  simp only [Y5]
  rw [h y (by simp),Agj (fun z hz=>h z (by simp [hz]))]
theorem Arw {s t:St} {T:TypeId} {x:Operand} (h:s.leaf x=t.leaf x) (hr:∀ id,s.leaf x=some (.row id)→s.res id=t.res id):Xh P s T x=Xh P t T x:=by
 unfold Xh
 rw [← h]
 split
 ·rename_i hl
  rw [hr _ hl]
 ·rfl
theorem Azk {sigs:Tb} {nid:Nat} {o:Oper} {t v':St} {av:AV} (hl:N9 o=true) (hc:∀ i∈D0 o,t.cell i=s.cell i) (hr:Aru o=false→∀ i∈D0 o,∀ id∈N8 (t.cell i),t.res id=s.res id)
  (e:S5 P sigs t nid o=some (av,v')):v'=t∧S5 P sigs s nid o=some (av,s):=by
 obtain ⟨dst,op,type,pos,after,guard⟩:=o
 cases op<;>simp only [N9] at hl<;>first | (cases hl; done) | skip
 case move x=>
  have hx:t.op x=s.op x:=Agg (fun i hi=>hc i (by simpa [D0,Op.operands] using hi))
  simp only [Bool.not_eq_true'] at hl
  simp only [S5,N7,Agc,Xi,s7,hl,avS,Nb,Rg] at e ⊢
  cases e
  exact ⟨rfl,by rw [hx]; rfl⟩
 case assign x=>
  have hx:t.op x=s.op x:=Agg (fun i hi=>hc i (by simpa [D0,Op.operands] using hi))
  simp only [Bool.not_eq_true'] at hl
  simp only [S5,N7,Agc,Xi,s7,hl,avS,Nb,Rg] at e ⊢
  cases e
  exact ⟨rfl,by rw [hx]; rfl⟩
 case indexAddr T x y=>
  have hs1:L7 [x] ⊆ D0 ⟨dst,.indexAddr T x y,type,pos,after,guard⟩:=fun i hi=>by
   cases x<;>simp [L7,D0,Op.operands] at hi ⊢
   exact .inl hi
  have hs2:L7 [y] ⊆ D0 ⟨dst,.indexAddr T x y,type,pos,after,guard⟩:=fun i hi=>by
   cases x<;>cases y<;>simp [L7,D0,Op.operands] at hi ⊢<;>first | exact hi | exact .inr hi
  have hx:=As9 (Agg (s:=t) (t:=s) (x:=x) (fun i hi=>hc i (hs1 hi)))
  have hy:=Ai7 (Agg (s:=t) (t:=s) (x:=y) (fun i hi=>hc i (hs2 hi)))
  have hrr:∀ id,t.leaf x=some (.row id)→t.res id=s.res id:=fun id hid=>by
   obtain ⟨i,h1,h2⟩:=Aw3 hid
   exact hr rfl i (hs1 h1) id h2
  simp only [S5,N7,Agc,Xi] at e ⊢
  rw [Agh hx hrr,Arv hx hrr hy,Agi hx hrr hy] at e
  split at e
  ·rename_i hq
   rw [if_pos hq]
   exact Aw5 e
  ·rename_i hq
   rw [if_neg hq]
   exact Aw5 e
 case call c=>
  obtain ⟨callee,args,argTypes⟩:=c
  have hcal:callee=.builtin .len:=by
   split at hl
   ·rename_i hq; exact hq
   ·cases hl
  subst hcal
  simp only [S5,N7,Agc,Xi] at e ⊢
  split at e
  ·rename_i x T ha ht
   have ha':args=#[x]:=by apply Array.toList_inj.1; simpa using ha
   subst ha'
   have hs1:L7 [x] ⊆ D0 ⟨dst,.call ⟨.builtin .len,#[x],argTypes⟩,type,pos,after,guard⟩:=fun i hi=>by
    cases x<;>simp [L7,D0,Op.operands,Call.operands] at hi ⊢
    exact hi
   have hop:=Agg (s:=t) (t:=s) (x:=x) (fun i hi=>hc i (hs1 hi))
   have hx:=As9 hop
   have hrr:∀ id,t.leaf x=some (.row id)→t.res id=s.res id:=fun id hid=>by
    obtain ⟨i,h1,h2⟩:=Aw3 hid
    exact hr rfl i (hs1 h1) id h2
   have hcc:M9 P t ⟨dst,.call ⟨.builtin .len,#[x],argTypes⟩,type,pos,after,guard⟩=M9 P s ⟨dst,.call ⟨.builtin .len,#[x],argTypes⟩,type,pos,after,guard⟩:=by
    have hcx:=Ai7 hop
    unfold M9
    have e1:∀ y∈(Op.call ⟨.builtin .len,#[x],argTypes⟩).operands.toList,t.conc y=s.conc y:=fun y hy=>by
     simp [Op.operands,Call.operands] at hy
     rw [hy]; exact hcx
    rw [Agj e1]
    split
    ·have:execOp (fun x=>(t.conc x).getD undef) ⟨dst,.call ⟨.builtin .len,#[x],argTypes⟩,type,pos,after,guard⟩=execOp (fun x=>(s.conc x).getD undef) ⟨dst,.call ⟨.builtin .len,#[x],argTypes⟩,type,pos,after,guard⟩:=
      execOp_congr _ (fun cs b q=>by cases q) (fun y hy=>by show (t.conc y).getD undef=(s.conc y).getD undef; rw [e1 y (Array.mem_toList_iff.2 hy)])
     rw [this]
    ·rfl
   split at e
   ·rename_i hsl
    rw [if_pos hsl]
    rw [Agh hx hrr,Aw4 hx hrr,Azj hx hrr (Ai7 hop)] at e
    split at e
    ·rename_i hq
     rw [if_pos hq]
     exact Anu e
    ·rename_i hq
     rw [if_neg hq]
     exact Anu e
   ·rename_i hsl
    rw [if_neg hsl]
    rw [hcc,Arw hx hrr] at e
    split at e
    ·rename_i hq
     rw [if_pos hq]
     exact Anu e
    ·rename_i hq
     rw [if_neg hq]
     exact Anu e
  ·cases e
theorem A4s {sigs:Tb} (hs:A4 P sigs) (h:B8 n B Iq s g a w) {nid:Nat} {o:Oper} {av:AV} {v':St} (e:Ac7 P sigs s nid o=some (av,v')):
  N5 P n B Iq s g a w o av (if N9 o then s else s.lay v' (S7 s o++N2 nid)):=by
 unfold Ac7 at e
 dsimp only at e
 split at e
 ·rename_i hfr
  split at e
  ·rename_i hcl
   obtain ⟨p,e1,e⟩:=A7 e
   split at e
   ·rename_i h1
    split at e<;>cases e
    rename_i h2
    cases hlt:N9 o with
    | true=>
     refine u3 hs h (Azk (t:=s.view (D0 o) (S7 s o)) hlt (fun i hi=>?_) (fun hm i hi id hid=>?_) e1).2
     ·simp [St.view,Cu.2 hi]
     ·have:(s.view (D0 o) (S7 s o)).cell i=s.cell i:=by simp [St.view,Cu.2 hi]
      rw [this] at hid
      simp [St.view,Cu.2 (Aoz hm i hi id hid)]
    | false=>
     have c1:=As8 hcl
     have c2:=As8 h2
     have hmv:Aru o=false:=by
      cases hq:Aru o with
      | false=>rfl
      | true=>rw [A4p hq] at hlt; cases hlt
     rw [hmv,Bool.false_or] at h1
     have hV:=A4r h (sl:=D0 o) (ids:=S7 s o) (Aoz hmv) c1.1 (c1.2 hlt)
     intro K Q hK
     refine u3 hs hV e1 K Q fun v gv' w' k1 k2 k3=>?_
     obtain ⟨g',q1,q2,q3⟩:=A82 h (Ael hfr) k1 k2 (Ai6.1 h1) c2.1 (c2.2 hlt)
     exact hK v g' w' q1 q2 (q3 v k3)
   ·cases e
  ·cases e
 ·cases e
end
end
section
def Azl (s:St) (ops:Array Oper) (j:Nat):Option (Option Bool):=match ops[j]? with
 | some o=>match o.dst with
  | some d=>match s.cell d with
   | .vl (.lf (.c (.bool b)))=>some (some b)
   | .tp []=>some none
   | _=>none
  | none=>none
 | none=>none
def M3 (s:St) (ops:Array Oper) (o:Oper):Option Bool:=match o.guard with
 | none=>some true
 | some (j,want)=>match Azl s ops j with
  | some (some b)=>some (bif b then want else !want)
  | some none=>some false
  | none=>none
def Arx (P:Program) (o:Oper):Bool:=match o.op with
 | .move x=>!Ak3 x
 | .assign x=>!Ak3 x
 | .pick _ _ _=>true
 | .build _ _=>true
 | .load _ _=>true
 | .nilCheck _=>true
 | .binOp _ _ _ _ _=>true
 | .unOp _ _ _=>true
 | .convert _ U _=>!As5 P U
 | .slice T _ _ _ _=>A4j P T
 | .fieldAddr _ _ _=>true
 | .field _ _ _=>true
 | .indexAddr _ _ _=>true
 | .index _ _ _=>true
 | .extract _ _=>true
 | .call c=>match c.callee with
  | .builtin .len=>true
  | .builtin .min=>true
  | .builtin .max=>true
  | _=>false
 | _=>false
section
variable {P:Program} {n B:Nat} {Iq:List Nat} {s:St} {g:Gh} {a:Act} {w:World}
theorem A62 {nid:Nat} {o:Oper} {av:AV} {s':St} (hro:Arx P o=true) (e:Nb (Xi P s nid o)=some (av,s')):s'=s:=by
 obtain ⟨dst,op,type,pos,after,guard⟩:=o
 have v0':∀ {x:Option Value},Nb (v0 s x)=some (av,s')→s'=s:=fun e=>by obtain ⟨_,_,q⟩:=Zi e; cases q; rfl
 have vC':∀ {x:Option (List Bool×Value)},Nb (vC s x)=some (av,s')→s'=s:=fun e=>by obtain ⟨_,_,q⟩:=Aei e; cases q; rfl
 have vl':∀ {x:Option Vl},Nb (vl0 s x)=some (av,s')→s'=s:=fun e=>by obtain ⟨_,_,q⟩:=Anq e; cases q; rfl
 have av':∀ {x:Option AV},Nb (av0 s x)=some (av,s')→s'=s:=fun e=>by obtain ⟨_,_,q⟩:=Ab8 e; cases q; rfl
 have lf':∀ {x:Option (List Bool×Lf)},Nb (lfC s x)=some (av,s')→s'=s:=fun e=>by obtain ⟨_,_,q⟩:=Anp e; cases q; rfl
 cases op<;>simp only [Xi,Arx] at e hro<;>first | (cases hro; done) | skip
 case move x=>
  have:=Anr e
  unfold s7 at this
  split at this
  ·rename_i h; rw [h] at hro; cases hro
  ·cases this; rfl
 case assign x=>
  have:=Anr e
  unfold s7 at this
  split at this
  ·rename_i h; rw [h] at hro; cases hro
  ·cases this; rfl
 case pick=>exact av' e
 case build=>exact vl' e
 case load=>
  split at e
  ·exact lf' e
  ·exact vl' e
 case nilCheck=>exact av' e
 case binOp op T x y U=>
  split at e
  ·split at e
   ·exact vC' e
   ·exact v0' e
  ·exact vC' e
  ·exact vC' e
  ·exact vC' e
  ·split at e<;>exact v0' e
  ·split at e<;>exact v0' e
  ·exact v0' e
 case unOp=>exact v0' e
 case convert T U x=>
  split at e
  ·exact v0' e
  ·split at e
   ·rename_i q
    rw [q] at hro
    cases hro
   ·exact v0' e
 case slice=>
  rw [if_pos hro] at e
  exact vC' e
 case fieldAddr=>
  obtain ⟨l,s1,e1,e2⟩:=Vi e
  cases e2
  obtain ⟨l',e3,e4⟩:=Option.map_eq_some_iff.1 e1
  cases e4
  rfl
 case field=>exact vl' e
 case indexAddr=>split at e<;>exact lf' e
 case index=>exact vC' e
 case extract=>exact av' e
 case call c=>
  obtain ⟨callee,args,argTypes⟩:=c
  simp only at e hro
  split at hro
  ·simp only at e
   split at e
   ·split at e
    ·split at e<;>exact v0' e
    ·split at e<;>exact v0' e
   ·cases e
  ·exact v0' e
  ·exact v0' e
  ·cases hro
theorem A63 {o:Oper} (hro:Arx P o=true):N7 o=none:=by
 unfold N7
 unfold Arx at hro
 split
 ·rename_i c hop
  rw [hop] at hro
  simp only at hro
  split
  ·rename_i f hf
   rw [hf] at hro
   cases hro
  ·rfl
 ·rfl
theorem A83 {o:Oper} (hro:Arx P o=true):Agc s o=none:=by
 unfold Agc
 unfold Arx at hro
 split
 ·rename_i c hop
  rw [hop] at hro
  simp only at hro
  split
  ·rename_i t hf
   rw [hf] at hro
   cases hro
  ·rfl
 ·rfl
theorem A4t (h:B8 n B Iq s g a w) {ops:Array Oper} {j:Nat} {r:Option Bool} (e:Azl s ops j=some r):yielded ops a.tmps j=r:=by
 unfold Azl at e
 unfold yielded
 split at e
 ·rename_i o ho
  split at e
  ·rename_i d hd
   have k:=h.cell d
   rw [ho]
   simp only [Option.bind_some,hd]
   split at e
   ·rename_i b hb
    cases e
    rw [hb] at k
    have k1:a.tmps.getD d undef=.bool b:=k.1
    rw [Array.getD_eq_getD_getElem?] at k1
    cases hq:a.tmps[d]? with
    | none=>rw [hq] at k1; simp [undef] at k1
    | some v=>rw [hq] at k1; simp at k1; rw [k1]
   ·rename_i hb
    cases e
    rw [hb] at k
    obtain ⟨us,hu,hsz,_⟩:=k
    have:us=#[]:=by apply Array.eq_empty_of_size_eq_zero; simpa using hsz
    subst this
    rw [Array.getD_eq_getD_getElem?] at hu
    cases hq:a.tmps[d]? with
    | none=>rfl
    | some v=>rw [hq] at hu; simp at hu; rw [hu]
   ·cases e
  ·cases e
 ·cases e
theorem Pw (h:B8 n B Iq s g a w) {ops:Array Oper} {o:Oper} {r:Bool} (e:M3 s ops o=some r):Region.wanted o (yielded ops a.tmps)=r:=by
 unfold M3 at e
 unfold Region.wanted
 split at e
 ·rename_i hg
  rw [hg]
  cases e
  rfl
 ·rename_i j want hg
  rw [hg]
  simp only
  split at e
  ·rename_i b hb
   rw [A4t h hb]
   cases e
   cases b<;>cases want<;>rfl
  ·rename_i hb
   rw [A4t h hb]
   cases e
   rfl
  ·cases e
end
end
section
structure Qy where
 o:Oper
 nid:Nat
 run:Bool
 ids:List Nat
 av:AV
 res:Nat→Qs
 wr:List Nat
def Qy.quiet (P:Program) (e:Qy):Bool:=!e.run || Arx P e.o
def Qy.app (P:Program) (n:Nat) (e:Qy) (s:St):St:=St.put n (if e.quiet P then s else ⟨s.cell,fun id=>if Lh e.wr id then e.res id else s.res id⟩) e.o.dst e.av
def Aw6 (ops:Array Oper) (o:Oper):List Nat:=match o.guard with
 | some (j,_)=>match ops[j]? with
  | some oj=>match oj.dst with
   | some d=>[d]
   | none=>[]
  | none=>[]
 | none=>[]
def Qy.looks (ops:Array Oper) (e:Qy):List Nat:=(if e.run then D0 e.o else [])++Aw6 ops e.o
def A4u:List Md→Bool
 | []=>true
 | .rd _::r=>A4u r
 | _=>false
def wrO (T:Tb) (v:St) (nid:Nat) (o:Oper) (m:List Nat):List Nat:=match o.op with
 | .store _ x _=>(match v.leaf x with
  | some (.ptr id _)=>if Lh m id then [id] else m
  | _=>m)
 | .call _=>(match N7 o with
  | some (f,_)=>(match T.sd f with
   | some sd=>if A4u sd.sg.ps&&(Ja sd.sg.rs&&(N4 sd.sg.ps&&Nat.ble (Lj sd.sg.rs) 4)) then N2 nid else m
   | none=>m)
  | none=>m)
 | _=>m
def u6 (T:Tb) (s:St) (nid:Nat) (o:Oper) (av:AV) (v:St):Qy:=⟨o,nid,true,S7 s o++N2 nid,av,v.res,wrO T (s.view (D0 o) (S7 s o)) nid o (S7 s o++N2 nid)⟩
def Agk (nid:Nat) (o:Oper):Qy:=⟨o,nid,false,[],.tp [],fun _=>.unborn,[]⟩
def A2v (P:Program) (sigs:Tb) (ops:Array Oper) (s:St) (e:Qy):Prop:=
 (M3 s ops e.o=some true∧∃ av v,Ac7 P sigs s e.nid e.o=some (av,v)∧e=u6 sigs s e.nid e.o av v)∨(M3 s ops e.o=some false∧e=Agk e.nid e.o)
def Aem (P:Program) (sigs:Tb) (ops:Array Oper) (n:Nat):List Qy→St→Prop
 | [],_=>True
 | e::r,s=>A2v P sigs ops s e∧Aem P sigs ops n r (e.app P n s)
def Zl (P:Program) (n:Nat) (D:Nat→Bool):Nat→List Qy→St→St
 | _,[],s=>s
 | i,e::r,s=>Zl P n D (i + 1) r (if D i then e.app P n s else s)
def Au7 (o:Oper) (l:List Nat):Bool:=match o.dst with
 | some d=>Lh l d
 | none=>false
def A06 (o o':Oper):Bool:=match o.dst,o'.dst with
 | some d,some d'=>Nat.beq d d'
 | _,_=>false
def Ao0 (l m:List Nat):Bool:=match l with
 | []=>false
 | i::r=>Lh m i || Ao0 r m
def Oa (P:Program) (ops:Array Oper) (e f:Qy):Bool:=
 !Au7 e.o (f.looks ops)&&!Au7 f.o (e.looks ops)&&!A06 e.o f.o&&((e.quiet P || !Ao0 e.wr f.ids)&&(f.quiet P || !Ao0 f.wr e.ids)&&(e.quiet P || f.quiet P || !Ao0 e.wr f.wr))
def Vk (o:Oper):List Nat:=(o.after.toList.filter fun e=>Region.binds .any e).map (·.on)
def Ak8 (ancs:List Nat):List Nat→Nat
 | []=>0
 | p::r=>((1 <<< p) ||| (ancs.getD p 0)) ||| Ak8 ancs r
def Ao1 (P:Program) (ops:Array Oper) (A:Nat) (e:Qy):Nat→List Qy→Bool
 | _,[]=>true
 | k,d::r=>(A.testBit k || Oa P ops d e)&&Ao1 P ops A e (k + 1) r
def Aw7 (i:Nat):List Nat→Bool
 | []=>true
 | p::r=>Nat.blt p i&&Aw7 i r
def A2w (P:Program) (ops:Array Oper):Nat→List Qy→List Nat→List Qy→Bool
 | _,_,_,[]=>true
 | i,done,ancs,e::r=>Aw7 i (Vk e.o)&&(Ao1 P ops (Ak8 ancs (Vk e.o)) e 0 done&&A2w P ops (i + 1) (done++[e]) (ancs++[Ak8 ancs (Vk e.o)]) r)
section
variable {P:Program} {n B:Nat} {Iq:List Nat} {sigs:Tb} {ops:Array Oper}
theorem Ai8 {l m:List Nat}:Ao0 l m=false↔∀ i∈l,i ∉ m:=by
 induction l with
 | nil=>simp [Ao0]
 | cons j r ih=>
  simp only [Ao0,Bool.or_eq_false_iff,ih,List.forall_mem_cons]
  constructor
  ·rintro ⟨h1,h2⟩
   exact ⟨fun q=>(by rw [Cu.2 q] at h1; cases h1),h2⟩
  ·rintro ⟨h1,h2⟩
   refine ⟨?_,h2⟩
   cases hq:Lh m j
   ·rfl
   ·exact absurd (Cu.1 hq) h1
theorem Ata {i:Nat} {l:List Nat}:Aw7 i l=true↔∀ p∈l,p < i:=by
 induction l with
 | nil=>simp [Aw7]
 | cons j r ih=>simp [Aw7,ih,Nat.blt_eq]
def Atb (P:Program) (ops:Array Oper) (e' e:Qy):Prop:=(∀ d,e'.o.dst=some d→d ∉ e.looks ops)∧(e'.quiet P=false→∀ id∈e'.wr,id ∉ e.ids)
theorem Agl {o:Oper} {l:List Nat} (h:Au7 o l=false):∀ d,o.dst=some d→d ∉ l:=by
 intro d hd q
 unfold Au7 at h
 rw [hd] at h
 simp only at h
 rw [Cu.2 q] at h
 cases h
theorem Agm {e f:Qy} (h:Oa P ops e f=true):Atb P ops e f∧Atb P ops f e:=by
 simp only [Oa,Bool.and_eq_true,Bool.not_eq_true',Bool.or_eq_true] at h
 obtain ⟨⟨⟨h1,h2⟩,h3⟩,⟨h4,h5⟩,_⟩:=h
 refine ⟨⟨Agl h1,fun q id hid=>?_⟩,⟨Agl h2,fun q id hid=>?_⟩⟩
 ·rcases h4 with h4 | h4
  ·rw [h4] at q; cases q
  ·exact Ai8.1 h4 id hid
 ·rcases h5 with h5 | h5
  ·rw [h5] at q; cases q
  ·exact Ai8.1 h5 id hid
theorem A4v (s:St) (d:Option Tmp) (av:AV) (x:Nat):(s.put n d av).cell x=if (d=some x∧Nat.blt x n=true) then av else s.cell x:=by
 cases d with
 | none=>simp [St.put]
 | some d=>
  unfold St.put
  simp only
  by_cases q:x=d
  ·subst q
   by_cases hn:Nat.blt x n=true
   ·simp [hn,St.setCell]
   ·simp [hn]
  ·have:¬ (some d=some x∧Nat.blt x n=true):=fun h=>q (Option.some.inj h.1).symm
   rw [if_neg this]
   split
   ·simp [St.setCell,Ay _ _ q]
   ·rfl
theorem S8 (e:Qy) (s:St) (x:Nat):(e.app P n s).cell x=if (e.o.dst=some x∧Nat.blt x n=true) then e.av else s.cell x:=by
 unfold Qy.app
 rw [A4v]
 split
 ·rfl
 ·split<;>rfl
theorem Zm (e:Qy) (s:St) (id:Nat):(e.app P n s).res id=if e.quiet P=false∧id∈e.wr then e.res id else s.res id:=by
 unfold Qy.app
 rw [Ans]
 by_cases q:e.quiet P=true
 ·simp [q]
 ·have q:e.quiet P=false:=by simpa using q
  simp only [q,Bool.false_eq_true,if_false,true_and]
  by_cases hm:id∈e.wr
  ·simp [hm,Cu.2 hm]
  ·have:Lh e.wr id=false:=by
    cases hq:Lh e.wr id
    ·rfl
    ·exact absurd (Cu.1 hq) hm
   simp [hm,this]
theorem St.ext' {s t:St} (h1:∀ i,s.cell i=t.cell i) (h2:∀ id,s.res id=t.res id):s=t:=by
 obtain ⟨c,r⟩:=s
 obtain ⟨c',r'⟩:=t
 congr
 ·exact funext h1
 ·exact funext h2
theorem A4w {e f:Qy} (h:Oa P ops e f=true) (s:St):f.app P n (e.app P n s)=e.app P n (f.app P n s):=by
 have hd:∀ d,e.o.dst=some d→f.o.dst≠some d:=by
  intro d h1 h2
  simp only [Oa,Bool.and_eq_true,Bool.not_eq_true'] at h
  have:=h.1.2
  unfold A06 at this
  rw [h1,h2] at this
  simp at this
 have hr:∀ id,e.quiet P=false→id∈e.wr→¬ (f.quiet P=false∧id∈f.wr):=fun id q1 q2 q3=>by
  simp only [Oa,Bool.and_eq_true,Bool.not_eq_true',Bool.or_eq_true] at h
  rcases h.2.2 with (h4 | h4) | h4
  ·rw [h4] at q1; cases q1
  ·rw [h4] at q3; cases q3.1
  ·exact Ai8.1 h4 id q2 q3.2
 refine St.ext' (fun i=>?_) (fun id=>?_)
 ·rw [S8,S8,S8,S8]
  by_cases h1:e.o.dst=some i∧Nat.blt i n=true
  ·have h2:¬ (f.o.dst=some i∧Nat.blt i n=true):=fun q=>hd i h1.1 q.1
   rw [if_neg h2,if_pos h1,if_pos h1]
  ·rw [if_neg h1,if_neg h1]
 ·rw [Zm,Zm,Zm,Zm]
  by_cases h1:e.quiet P=false∧id∈e.wr
  ·rw [if_neg (hr id h1.1 h1.2),if_pos h1,if_pos h1]
  ·rw [if_neg h1,if_neg h1]
def Pj (s t:St) (L I:List Nat):Prop:=(∀ x∈L,s.cell x=t.cell x)∧∀ id∈I,s.res id=t.res id
theorem Pj.app {s t:St} {L I:List Nat} (h:Pj s t L I) (e:Qy):Pj (e.app P n s) (e.app P n t) L I:=by
 refine ⟨fun x hx=>?_,fun id hid=>?_⟩
 ·rw [S8,S8,h.1 x hx]
 ·rw [Zm,Zm,h.2 id hid]
theorem Atb.agree {e' e:Qy} (h:Atb P ops e' e) (s:St):Pj (e'.app P n s) s (e.looks ops) e.ids:=by
 refine ⟨fun x hx=>?_,fun id hid=>?_⟩
 ·rw [S8,if_neg (fun q=>h.1 x q.1 hx)]
 ·rw [Zm,if_neg (fun q=>h.2 q.1 id q.2 hid)]
theorem Pj.trans {s t u:St} {L I:List Nat} (h:Pj s t L I) (k:Pj t u L I):Pj s u L I:=⟨fun x hx=>(h.1 x hx).trans (k.1 x hx),fun x hx=>(h.2 x hx).trans (k.2 x hx)⟩
theorem Pj.symm {s t:St} {L I:List Nat} (h:Pj s t L I):Pj t s L I:=⟨fun x hx=>(h.1 x hx).symm,fun x hx=>(h.2 x hx).symm⟩
theorem Z8 {s t:St}:∀ {sl:List Nat},(∀ x∈sl,s.cell x=t.cell x)→If s sl=If t sl
 | [],_=>rfl
 | i::r,h=>by
  simp only [If]
  rw [h i (by simp),Z8 (fun x hx=>h x (by simp [hx]))]
theorem Qv {s t:St}:∀ {l:List Nat},(∀ x∈l,s.res x=t.res x)→Kf s l=Kf t l
 | [],_=>rfl
 | i::r,h=>by
  simp only [Kf]
  rw [h i (by simp),Qv (fun x hx=>h x (by simp [hx]))]
theorem Ak9 {s t:St} {sl:List Nat} (h1:∀ x∈sl,s.cell x=t.cell x) (h2:∀ id∈Age s sl,s.res id=t.res id):Age t sl=Age s sl:=by
 unfold Age at h2 ⊢
 dsimp only at h2 ⊢
 rw [← Z8 h1]
 have e1:Kf t (If s sl)=Kf s (If s sl):=(Qv (fun x hx=>h2 x (List.mem_append_left _ (List.mem_append_left _ hx)))).symm
 rw [e1]
 have e2:Kf t (If s sl++Kf s (If s sl))=Kf s (If s sl++Kf s (If s sl)):=(Qv (fun x hx=>h2 x (List.mem_append_left _ hx))).symm
 rw [e2]
theorem Zn {s t:St}:∀ {l:List Nat},(∀ x∈l,s.res x=t.res x)→Aek s l=Aek t l
 | [],_=>rfl
 | i::r,h=>by
  simp only [Aek]
  rw [h i (by simp),Zn (fun x hx=>h x (by simp [hx]))]
theorem Ao2 {s t:St} {o:Oper} (h1:∀ x∈D0 o,s.cell x=t.cell x) (h2:∀ id∈S7 s o,s.res id=t.res id):S7 t o=S7 s o:=by
 unfold S7 at h2 ⊢
 by_cases hm:Aru o=true
 ·rw [if_pos hm,if_pos hm]
 rw [if_neg hm] at h2
 rw [if_neg hm,if_neg hm]
 split
 ·rename_i hq
  rw [if_pos hq] at h2
  exact Ak9 h1 h2
 ·rename_i hq
  rw [if_neg hq] at h2
  have h3:∀ id∈Age s (D0 o),s.res id=t.res id:=fun id q=>h2 id (List.mem_append_left _ q)
  rw [Ak9 h1 h3,← Zn h3]
theorem Ary {s t:St} {o:Oper} {m:List Nat} (h:∀ id∈m,s.res id=t.res id):Sq o t m=Sq o s m:=by
 unfold Sq
 rw [Qv h,Zn h]
theorem Agn {s t:St}:∀ {k nid:Nat},(∀ id,nid≤id→id < nid + k→s.res id=t.res id)→Pt t nid k=Pt s nid k
 | 0,_,_=>rfl
 | k + 1,nid,h=>by
  simp only [Pt]
  rw [h nid (Nat.le_refl _) (by omega),Agn (fun id q1 q2=>h id (by omega) (by omega))]
theorem Ao3 {s t:St} {sl ids:List Nat} (h1:∀ x∈sl,s.cell x=t.cell x) (h2:∀ id∈ids,s.res id=t.res id):t.view sl ids=s.view sl ids:=by
 refine St.ext' (fun i=>?_) (fun id=>?_)
 ·show (if Lh sl i then t.cell i else .dead)=(if Lh sl i then s.cell i else .dead)
  split
  ·rename_i q; rw [h1 i (Cu.1 q)]
  ·rfl
 ·show (if Lh ids id then t.res id else .unborn)=(if Lh ids id then s.res id else .unborn)
  split
  ·rename_i q; rw [h2 id (Cu.1 q)]
  ·rfl
theorem Aw8 {s t:St} {nid:Nat} {o:Oper} (h1:∀ x∈D0 o,s.cell x=t.cell x) (h2:∀ id∈S7 s o++N2 nid,s.res id=t.res id):Ac7 P sigs t nid o=Ac7 P sigs s nid o:=by
 have h3:∀ id∈S7 s o,s.res id=t.res id:=fun id q=>h2 id (List.mem_append_left _ q)
 unfold Ac7
 dsimp only
 rw [Ao2 h1 h3,Ao3 h1 h3,← Ary h3,Agn (s:=s) (t:=t) (fun id q1 q2=>h2 id (List.mem_append_right _ (by
  simp only [N2,List.mem_cons,List.not_mem_nil,or_false,Aox] at q2 ⊢
  omega)))]
theorem Azm {s t:St} {o:Oper} {j:Nat} {want:Bool} (hg:o.guard=some (j,want)) (h:∀ x∈Aw6 ops o,s.cell x=t.cell x):Azl t ops j=Azl s ops j:=by
 unfold Aw6 at h
 rw [hg] at h
 simp only at h
 unfold Azl
 split
 ·rename_i oj hoj
  rw [hoj] at h
  simp only at h
  split
  ·rename_i d hd
   rw [hd] at h
   simp only [List.mem_cons,List.not_mem_nil,or_false,forall_eq] at h
   rw [h]
  ·rfl
 ·rfl
theorem Ac9 {s t:St} {o:Oper} (h:∀ x∈Aw6 ops o,s.cell x=t.cell x):M3 t ops o=M3 s ops o:=by
 unfold M3
 split
 ·rfl
 ·rename_i j want hg
  rw [Azm hg h]
theorem A2v.local {s t:St} {e:Qy} (h:A2v P sigs ops s e) (ha:Pj s t (e.looks ops) e.ids):A2v P sigs ops t e:=by
 have hg:∀ x∈Aw6 ops e.o,s.cell x=t.cell x:=fun x hx=>ha.1 x (List.mem_append_right _ hx)
 rcases h with ⟨h1,av,v,h2,h3⟩ | ⟨h1,h2⟩
 ·left
  have hrun:e.run=true:=by rw [h3]; rfl
  have hids:e.ids=S7 s e.o++N2 e.nid:=by rw [h3]; rfl
  have c1:∀ x∈D0 e.o,s.cell x=t.cell x:=fun x hx=>ha.1 x (List.mem_append_left _ (by rw [hrun]; exact hx))
  have c2:∀ id∈S7 s e.o++N2 e.nid,s.res id=t.res id:=fun id hid=>ha.2 id (by rw [hids]; exact hid)
  refine ⟨by rw [Ac9 hg]; exact h1,av,v,by rw [Aw8 c1 c2]; exact h2,?_⟩
  have:u6 sigs t e.nid e.o av v=u6 sigs s e.nid e.o av v:=by
   unfold u6
   rw [Ao2 c1 (fun id hid=>c2 id (List.mem_append_left _ hid)),Ao3 c1 (fun id hid=>c2 id (List.mem_append_left _ hid))]
  rw [this]
  exact h3
 ·exact .inr ⟨by rw [Ac9 hg]; exact h1,h2⟩
theorem Ao4 {D:Nat→Bool} {e:Qy}:∀ {tr:List Qy} {k:Nat} {s:St},(∀ j f,tr[j]? = some f→D (k + j)=true→Oa P ops e f=true)→Zl P n D k tr (e.app P n s)=e.app P n (Zl P n D k tr s)
 | [],_,_,_=>rfl
 | f::r,k,s,h=>by
  simp only [Zl]
  have h':∀ j f',r[j]? = some f'→D (k + 1 + j)=true→Oa P ops e f'=true:=fun j f' h1 h2=>h (j + 1) f' (by simpa using h1) (by rw [← h2]; congr 1; omega)
  split
  ·rename_i hD
   rw [A4w (h 0 f rfl hD),Ao4 h']
  ·exact Ao4 h'
theorem Ai9 {D D':Nat→Bool}:∀ {tr:List Qy} {k:Nat} {s:St},(∀ j,j < tr.length→D (k + j)=D' (k + j))→Zl P n D k tr s=Zl P n D' k tr s
 | [],_,_,_=>rfl
 | f::r,k,s,h=>by
  simp only [Zl]
  have h0:D k=D' k:=h 0 (by simp)
  rw [h0]
  exact Ai9 (fun j hj=>by have:=h (j + 1) (by simpa using hj); rw [show k + 1 + j=k + (j + 1) by omega]; exact this)
theorem A07 {D D':Nat→Bool} {e:Qy}:∀ {tr:List Qy} {k i:Nat} {s:St},tr[i]? = some e→D (k + i)=false→D' (k + i)=true→(∀ j,j≠i→D' (k + j)=D (k + j))→
  (∀ j f,i < j→tr[j]? = some f→D (k + j)=true→Oa P ops e f=true)→Zl P n D' k tr s=e.app P n (Zl P n D k tr s)
 | [],_,_,_,h,_,_,_,_=>by simp at h
 | f::r,k,0,s,h,h1,h2,h3,h4=>by
  simp at h
  subst h
  simp only [Zl]
  have h1':D k=false:=h1
  have h2':D' k=true:=h2
  rw [h1',h2']
  simp only [if_true,Bool.false_eq_true,if_false]
  rw [Ai9 (D:=D') (D':=D) (fun j hj=>by have:=h3 (j + 1) (by omega); rw [show k + 1 + j=k + (j + 1) by omega]; exact this)]
  exact Ao4 (fun j f' q1 q2=>h4 (j + 1) f' (by omega) (by simpa using q1) (by rw [← q2]; congr 1; omega))
 | f::r,k,i + 1,s,h,h1,h2,h3,h4=>by
  simp only [Zl]
  have h0:D' k=D k:=h3 0 (by omega)
  rw [h0]
  refine A07 (i:=i) (by simpa using h) (by rw [← h1]; congr 1; omega) (by rw [← h2]; congr 1; omega) (fun j hj=>?_) (fun j f' q1 q2 q3=>?_)
  ·have:=h3 (j + 1) (by omega)
   rw [show k + 1 + j=k + (j + 1) by omega]
   exact this
  ·exact h4 (j + 1) f' (by omega) (by simpa using q2) (by rw [← q3]; congr 1; omega)
theorem Aja {D:Nat→Bool} {e:Qy}:∀ {tr:List Qy} {k i:Nat} {s t:St},Pj s t (e.looks ops) e.ids→
  (∀ j f,tr[j]? = some f→j < i→D (k + j)=false→Atb P ops f e)→(∀ j f,tr[j]? = some f→i≤j→D (k + j)=true→Atb P ops f e)→
  Pj (Zl P n D k tr s) (Zl P n (fun _=>true) k (tr.take i) t) (e.looks ops) e.ids
 | [],k,i,s,t,h,_,_=>by simpa [Zl] using h
 | f::r,k,0,s,t,h,h1,h2=>by
  simp only [Zl,List.take_zero]
  have ih:∀ s',Pj s' t (e.looks ops) e.ids→Pj (Zl P n D (k + 1) r s') t (e.looks ops) e.ids:=fun s' q=>by
   have:=Aja (D:=D) (tr:=r) (k:=k + 1) (i:=0) q (fun j f' q1 q2=>by omega) (fun j f' q1 _ q3=>h2 (j + 1) f' (by simpa using q1) (by omega) (by rw [← q3]; congr 1; omega))
   simpa [Zl] using this
  split
  ·rename_i hD
   exact ih _ (((h2 0 f rfl (by omega) hD).agree s).trans h)
  ·exact ih _ h
 | f::r,k,i + 1,s,t,h,h1,h2=>by
  simp only [Zl,List.take_succ_cons,if_true]
  have ih:∀ s' t',Pj s' t' (e.looks ops) e.ids→Pj (Zl P n D (k + 1) r s') (Zl P n (fun _=>true) (k + 1) (r.take i) t') (e.looks ops) e.ids:=fun s' t' q=>
   Aja (D:=D) q (fun j f' q1 q2 q3=>h1 (j + 1) f' (by simpa using q1) (by omega) (by rw [← q3]; congr 1; omega)) (fun j f' q1 q2 q3=>h2 (j + 1) f' (by simpa using q1) (by omega) (by rw [← q3]; congr 1; omega))
  split
  ·exact ih _ _ (h.app f)
  ·rename_i hD
   have hD:D k=false:=by simpa using hD
   exact ih _ _ (h.trans ((h1 0 f rfl (by omega) hD).agree t).symm)
theorem Aem.get:∀ {tr:List Qy} {k i:Nat} {s:St} {e:Qy},Aem P sigs ops n tr s→tr[i]? = some e→A2v P sigs ops (Zl P n (fun _=>true) k (tr.take i) s) e
 | [],_,_,_,_,_,h=>by simp at h
 | f::r,k,0,s,e,h,hi=>by
  simp at hi
  subst hi
  simpa [Zl] using h.1
 | f::r,k,i + 1,s,e,h,hi=>by
  simp only [List.take_succ_cons,Zl,if_true]
  exact Aem.get h.2 (by simpa using hi)
def A4x (tr:List Qy) (D:Nat→Prop):Prop:=∀ k e,tr[k]? = some e→D k→∀ p∈Vk e.o,D p
def Bef (tr:List Qy) (i:Nat) (e:Qy):Prop:=∀ D,A4x tr D→(∀ p∈Vk e.o,D p)→D i
theorem Atc {ancs:List Nat} {i:Nat}:∀ {ps:List Nat},(Ak8 ancs ps).testBit i=true→∃ p∈ps,p=i∨(ancs.getD p 0).testBit i=true
 | [],h=>by simp [Ak8] at h
 | p::r,h=>by
  simp only [Ak8,Nat.testBit_or,Bool.or_eq_true] at h
  rcases h with (h | h) | h
  ·refine ⟨p,by simp,.inl ?_⟩
   rw [Nat.one_shiftLeft,Nat.testBit_two_pow] at h
   simpa using h
  ·exact ⟨p,by simp,.inr h⟩
  ·obtain ⟨q,h1,h2⟩:=Atc h
   exact ⟨q,by simp [h1],h2⟩
theorem Ao5 {A:Nat} {e:Qy}:∀ {l:List Qy} {k:Nat},Ao1 P ops A e k l=true→∀ j f,l[j]? = some f→A.testBit (k + j)=true∨Oa P ops f e=true
 | [],_,_,j,f,hj=>by simp at hj
 | d::r,k,h,0,f,hj=>by
  simp at hj
  subst hj
  simp only [Ao1,Bool.and_eq_true,Bool.or_eq_true] at h
  exact h.1
 | d::r,k,h,j + 1,f,hj=>by
  simp only [Ao1,Bool.and_eq_true,Bool.or_eq_true] at h
  have:=Ao5 h.2 j f (by simpa using hj)
  rw [show k + (j + 1)=k + 1 + j by omega]
  exact this
theorem Aw9 {tr:List Qy}:∀ {rest done:List Qy} {ancs:List Nat},tr=done++rest→ancs.length=done.length→A2w P ops done.length done ancs rest=true→
  (∀ k e x,done[k]? = some e→(ancs.getD k 0).testBit x=true→Bef tr x e)→
  (∀ i j e f,tr[i]? = some e→tr[j]? = some f→i < j→j < done.length→Bef tr i f∨Oa P ops e f=true)→
  (∀ j f,tr[j]? = some f→j < done.length→∀ p∈Vk f.o,p < j)→
  (∀ i j e f,tr[i]? = some e→tr[j]? = some f→i < j→Bef tr i f∨Oa P ops e f=true)∧(∀ j f,tr[j]? = some f→∀ p∈Vk f.o,p < j)
 | [],done,ancs,h,_,_,_,h3,h4=>by
  subst h
  rw [List.append_nil]
  refine ⟨fun i j e f h1 h2 h5=>?_,fun j f h1=>?_⟩
  ·have:=h3 i j e f (by rw [List.append_nil]; exact h1) (by rw [List.append_nil]; exact h2) h5 (List.getElem?_eq_some_iff.1 h2).1
   rwa [List.append_nil] at this
  ·exact h4 j f (by rw [List.append_nil]; exact h1) (List.getElem?_eq_some_iff.1 h1).1
 | e::rest,done,ancs,h,hl,hok,h2,h3,h4=>by
  simp only [A2w,Bool.and_eq_true] at hok
  obtain ⟨k1,k2,k3⟩:=hok
  have hget:tr[done.length]? = some e:=by rw [h]; simp
  have hbef:∀ x,(Ak8 ancs (Vk e.o)).testBit x=true→Bef tr x e:=by
   intro x hx D hD hp
   obtain ⟨p,q1,q2⟩:=Atc hx
   rcases q2 with rfl | q2
   ·exact hp _ q1
   ·have hpl:p < done.length:=Ata.1 k1 p q1
    have hpe:done[p]? = some done[p]:=List.getElem?_eq_getElem hpl
    have hpt:tr[p]? = some done[p]:=by rw [h,List.getElem?_append_left hpl]; exact hpe
    exact h2 p _ x hpe q2 D hD (hD p _ hpt (hp p q1))
  have hlen:(done++[e]).length=done.length + 1:=by simp
  refine Aw9 (rest:=rest) (done:=done++[e]) (ancs:=ancs++[Ak8 ancs (Vk e.o)]) (by rw [h]; simp) (by simp [hl]) (by rw [hlen]; exact k3) ?_ ?_ ?_
  ·intro k f x hk hx
   by_cases q:k < done.length
   ·rw [List.getElem?_append_left q] at hk
    refine h2 k f x hk ?_
    rw [List.getD_eq_getElem?_getD,List.getElem?_append_left (by omega),← List.getD_eq_getElem?_getD] at hx
    exact hx
   ·have hkl:=(List.getElem?_eq_some_iff.1 hk).1
    have hke:k=done.length:=by simp at hkl; omega
    subst hke
    simp at hk
    subst hk
    rw [List.getD_eq_getElem?_getD,← hl] at hx
    simp at hx
    exact hbef x hx
  ·intro i j f f' q1 q2 q3 q4
   by_cases q:j < done.length
   ·exact h3 i j f f' q1 q2 q3 q
   ·have:j=done.length:=by simp at q4; omega
    subst this
    rw [hget] at q2
    cases q2
    have hi:done[i]? = some f:=by rw [h,List.getElem?_append_left q3] at q1; exact q1
    rcases Ao5 k2 i f hi with q5 | q5
    ·exact .inl (hbef i (by simpa using q5))
    ·exact .inr q5
  ·intro j f q1 q2
   by_cases q:j < done.length
   ·exact h4 j f q1 q
   ·have:j=done.length:=by simp at q2; omega
    subst this
    rw [hget] at q1
    cases q1
    exact Ata.1 k1
end
end
section
def unl (listed:Array Bool):Nat→Nat
 | 0=>0
 | k + 1=>unl listed k + (if listed.getD k false then 0 else 1)
theorem Mo (listed:Array Bool) (i j:Nat) (h:i < listed.size):(listed.setIfInBounds i true).getD j false=if j=i then true else listed.getD j false:=by
 by_cases q:j=i
 ·subst q
  simp [h]
 ·rw [getD_set_ne false (fun e=>q e.symm)]
  simp [q]
theorem A08 (listed:Array Bool) (i:Nat) (h:i < listed.size):∀ k,k≤i→unl (listed.setIfInBounds i true) k=unl listed k
 | 0,_=>rfl
 | k + 1,hk=>by
  simp only [unl]
  have hq:(listed.setIfInBounds i true).getD k false=listed.getD k false:=by rw [Mo listed i k h,if_neg (by omega)]
  rw [A08 listed i h k (by omega),hq]
theorem A09 (listed:Array Bool) (i:Nat) (h:i < listed.size) (hf:listed.getD i false=false):∀ k,i < k→unl (listed.setIfInBounds i true) k + 1=unl listed k
 | 0,hk=>by omega
 | k + 1,hk=>by
  simp only [unl]
  by_cases q:k=i
  ·subst q
   have hq:(listed.setIfInBounds k true).getD k false=true:=by rw [Mo listed k k h,if_pos rfl]
   rw [A08 listed k h k (Nat.le_refl _),hq,hf]
   simp
  ·have hq:(listed.setIfInBounds i true).getD k false=listed.getD k false:=by rw [Mo listed i k h,if_neg q]
   rw [hq]
   have:=A09 listed i h hf k (by omega)
   omega
theorem Axa (listed:Array Bool):∀ k,unl listed k=0→∀ j,j < k→listed.getD j false=true
 | 0,_,j,hj=>by omega
 | k + 1,h,j,hj=>by
  simp only [unl] at h
  by_cases q:j=k
  ·subst q
   by_cases hq:listed.getD j false=true
   ·exact hq
   ·rw [if_neg hq] at h; omega
  ·exact Axa listed k (by omega) j (by omega)
section
variable {P:Program} {n B:Nat} {Iq:List Nat} {sigs:Tb} {ops:Array Oper}
theorem Ao6 {listed:Array Bool} {j:Nat} (hj:j∈Region.ready .any ops listed):∃ o,ops[j]? = some o∧listed.getD j true=false∧∀ p∈Vk o,listed.getD p false=true:=by
 obtain ⟨h0,o,ho,h⟩:=mem_ready.1 hj
 refine ⟨o,ho,h0,fun p hp=>?_⟩
 simp only [Vk,List.mem_map,List.mem_filter] at hp
 obtain ⟨e,⟨he,hb⟩,rfl⟩:=hp
 exact h e (Array.mem_toList_iff.1 he) hb
theorem Azn {tr:List Qy} (htr:tr.map (·.o)=ops.toList) {listed:Array Bool} (hsz:listed.size=ops.size) (hp:∀ j f,tr[j]? = some f→∀ p∈Vk f.o,p < j) (hr:Region.ready .any ops listed=[]):
  ∀ j,j < ops.size→listed.getD j false=true:=by
 intro j
 induction j using Nat.strongRecOn with
 | _ j ih=>
  intro hj
  cases hq:listed.getD j false with
  | true=>rfl
  | false=>
   exfalso
   have hlen:tr.length=ops.size:=by rw [← Array.length_toList,← htr]; simp
   have hte:tr[j]? = some (tr[j]'(by omega)):=List.getElem?_eq_getElem (by omega)
   have ho:ops[j]? = some (tr[j]'(by omega)).o:=by
    rw [← Array.getElem?_toList,← htr,List.getElem?_map,hte]
    rfl
   have:j∈Region.ready .any ops listed:=by
    rw [mem_ready]
    refine ⟨?_,_,ho,fun e he hb=>?_⟩
    ·rw [← hq]
     simp [Array.getD,show j < listed.size by omega]
    ·have hmem:e.on∈Vk (tr[j]'(by omega)).o:=by
      simp only [Vk,List.mem_map,List.mem_filter]
      exact ⟨e,⟨Array.mem_toList_iff.2 he,hb⟩,rfl⟩
     have:=hp j _ hte _ hmem
     exact ih e.on this (by omega)
   rw [hr] at this
   cases this
theorem A4y {o:Oper} (h:N9 o=true):Arx P o=true:=by
 obtain ⟨dst,op,type,pos,after,guard⟩:=o
 cases op<;>simp only [N9] at h<;>simp only [Arx]<;>first | exact h | (cases h; done) | skip
 case call c=>
  split at h
  ·rename_i hq
   rw [hq]
  ·cases h
theorem Axb:∀ {ms:List Md} {y:BxD ms} {ow:List (Option Nat)} {res:Nat→Qs},A4u ms=true→Mh ms y ow res=res
 | [],_,_,_,_=>rfl
 | .rd _::ms,y,ow,res,h=>Axb (ms:=ms) h
 | .own _ _::_,_,_,_,h=>by cases h
 | .bx _ _::_,_,_,_,h=>by cases h
 | .mu _ _::_,_,_,_,h=>by cases h
theorem A64 {v v':St} {nid:Nat} {o:Oper} {av:AV} {m:List Nat} (e:S5 P sigs v nid o=some (av,v')) {id:Nat} (hm:id∈m) (hw:id ∉ wrO sigs v nid o m):v'.res id=v.res id:=by
 obtain ⟨dst,op,type,pos,after,guard⟩:=o
 cases op<;>try exact absurd hm hw
 case store T x y=>
  have e2:Nb (if Af7 v x then stC (Af8 P v T x y) else stC (s6 P v T x y))=some (av,v'):=e
  unfold wrO at hw
  simp only at hw
  split at hw
  ·rename_i j off hl
   have hlp:Af7 v x=false:=by unfold Af7; rw [hl]
   rw [hlp] at e2
   simp only [Bool.false_eq_true,if_false] at e2
   obtain ⟨s',e3,e4⟩:=Agb e2
   cases e4
   obtain ⟨cs,e5,_⟩:=Co e3
   unfold s6 at e5
   rw [hl] at e5
   simp only [Option.bind_some] at e5
   obtain ⟨u,e6,e7⟩:=A7 e5
   split at e7
   ·cases e7
   ·split at e7
    ·split at e7
     ·split at e7
      ·cases e7
       have hne:id≠j:=by
        intro q
        subst q
        rw [if_pos (Cu.2 hm)] at hw
        exact hw (List.mem_singleton.2 rfl)
       show Vc v.res j _ id=v.res id
       exact Ay _ _ hne
      ·cases e7
     ·cases e7
    ·cases e7
  ·exact absurd hm hw
 case call c=>
  unfold wrO at hw
  simp only at hw
  split at hw
  ·rename_i f xs hc
   split at hw
   ·rename_i sd hsd
    split at hw
    ·rename_i hq
     simp only [Bool.and_eq_true] at hq
     obtain ⟨q1,q2,q3,q4⟩:=hq
     unfold S5 at e
     rw [hc] at e
     simp only at e
     split at e
     ·rename_i vs hvs
      rw [hsd] at e
      simp only at e
      unfold Aee at e
      rw [q2,q3] at e
      simp only [Bool.and_self,if_true] at e
      obtain ⟨ls,e1,e⟩:=A7 e
      obtain ⟨q,e2,e⟩:=A7 e
      split at e
      ·split at e
       ·obtain ⟨r,e3,e⟩:=A7 e
        obtain ⟨vs',e4,e⟩:=A7 e
        cases e
        show Mn sd.sg.rs r.1 nid (Mh sd.sg.ps r.2 q.2 v.res) id=v.res id
        rw [Axb q1]
        refine Ir _ _ _ _ _ ?_
        have hq4:=Nat.le_of_ble_eq_true q4
        simp only [N2,List.mem_cons,List.not_mem_nil,or_false,not_or] at hw
        omega
       ·cases e
      ·cases e
     ·cases e
    ·exact absurd hm hw
   ·exact absurd hm hw
  ·exact absurd hm hw
theorem A9y {v:St} {nid:Nat} {o:Oper} {m:List Nat} (hs:∀ i∈N2 nid,i∈m) {id:Nat} (h:id∈wrO sigs v nid o m):id∈m:=by
 unfold wrO at h
 split at h
 ·split at h
  ·split at h
   ·rename_i q
    rw [List.mem_singleton.1 h]
    exact Cu.1 q
   ·exact h
  ·exact h
 ·split at h
  ·split at h
   ·split at h
    ·exact hs id h
    ·exact h
   ·exact h
  ·exact h
 ·exact h
theorem A65 (hs:A4 P sigs) {s:St} {g:Gh} {a:Act} {w:World} (h:B8 n B Iq s g a w) {e:Qy} (hf:A2v P sigs ops s e) {i:Nat} (ho:ops[i]? = some e.o)
  {K:Act→World→Prop} {Q:Exit→Act→World→Prop} (hK:∀ a' g' w',Go B Iq s g w (e.app P n s) g' w'→B8 n B Iq (e.app P n s) g' a' w'→K a' w'):wpOp P ops Q i K a w:=by
 unfold wpOp
 rw [ho]
 simp only
 rcases hf with ⟨h1,av,v,h2,h3⟩ | ⟨h1,h2⟩
 ·rw [if_pos (Pw h h1)]
  left
  refine A4s hs h h2 K Q fun u g' w' k1 k2 k3=>?_
  have happ:e.app P n s=St.put n (if N9 e.o then s else s.lay v (S7 s e.o++N2 e.nid)) e.o.dst av:=by
   have q1:e.run=true:=by rw [h3]; rfl
   have q2:e.wr=wrO sigs (s.view (D0 e.o) (S7 s e.o)) e.nid e.o (S7 s e.o++N2 e.nid):=by rw [h3]; rfl
   have q3:e.av=av:=by rw [h3]; rfl
   have q4:e.res=v.res:=by rw [h3]; rfl
   unfold Qy.app
   rw [q3]
   congr 1
   rw [q2,q4]
   by_cases hq:e.quiet P=true
   ·rw [if_pos hq]
    have hro:Arx P e.o=true:=by
     unfold Qy.quiet at hq
     rw [q1] at hq
     simpa using hq
    by_cases hlt:N9 e.o=true
    ·rw [if_pos hlt]
    ·rw [if_neg hlt]
     unfold Ac7 at h2
     dsimp only at h2
     split at h2
     ·rename_i hfr
      split at h2
      ·obtain ⟨p,e1,e2⟩:=A7 h2
       split at e2
       ·split at e2<;>cases e2
        unfold S5 at e1
        rw [A63 hro] at e1
        simp only [A83 hro] at e1
        have:=A62 hro e1
        rw [this]
        refine St.ext' (fun i=>rfl) (fun id=>?_)
        show s.res id=if Lh _ id then (if Lh _ id then s.res id else .unborn) else s.res id
        split
        ·rename_i hm
         split
         ·rfl
         ·rename_i hn
          rcases List.mem_append.1 (Cu.1 hm) with q | q
          ·exact absurd (Cu.2 q) hn
          ·exact Ael hfr id q
        ·rfl
       ·cases e2
      ·cases h2
     ·cases h2
   ·have hlt:¬ N9 e.o=true:=fun q=>hq (by
     unfold Qy.quiet
     rw [q1,A4y q]
     rfl)
    rw [if_neg hq,if_neg hlt]
    unfold Ac7 at h2
    dsimp only at h2
    split at h2
    ·rename_i hfr
     split at h2
     ·obtain ⟨p,e1,e2⟩:=A7 h2
      split at e2
      ·split at e2<;>cases e2
       refine St.ext' (fun i=>rfl) (fun id=>?_)
       show (if Lh _ id then v.res id else s.res id)=if Lh _ id then v.res id else s.res id
       by_cases hm:id∈S7 s e.o++N2 e.nid
       ·rw [if_pos (Cu.2 hm)]
        split
        ·rfl
        ·rename_i hw
         rw [A64 e1 hm (fun q=>hw (Cu.2 q))]
         show s.res id=if Lh _ id then s.res id else .unborn
         split
         ·rfl
         ·rename_i hn
          rcases List.mem_append.1 hm with q | q
          ·exact absurd (Cu.2 q) hn
          ·exact Ael hfr id q
       ·rw [if_neg (fun q=>hm (Cu.1 q)),if_neg (fun q=>hm (A9y (fun i hi=>List.mem_append_right _ hi) (Cu.1 q)))]
      ·cases e2
     ·cases h2
    ·cases h2
  obtain ⟨r1,r2⟩:=Qu k2 e.o.dst k3
  exact hK _ g' w' (by rw [happ]; exact k1.trans r2) (by rw [happ]; exact r1)
 ·rw [if_neg (by rw [Pw h h1]; simp)]
  have happ:e.app P n s=St.put n s e.o.dst (.tp []):=by
   have q1:e.run=false:=by rw [h2]; rfl
   have q2:e.av=.tp []:=by rw [h2]; rfl
   unfold Qy.app
   rw [q2]
   have:e.quiet P=true:=by unfold Qy.quiet; rw [q1]; rfl
   rw [if_pos this]
  obtain ⟨r1,r2⟩:=Qu (av:=.tp []) (v:=undef) h e.o.dst ⟨#[],rfl,rfl,fun j v hv=>by simp at hv⟩
  exact hK _ g w (by rw [happ]; exact r2) (by rw [happ]; exact r1)
theorem A85 (hs:A4 P sigs) {tr:List Qy} {s0:St} {g0:Gh} {w0:World} (htr:tr.map (·.o)=ops.toList) (hfit:Aem P sigs ops n tr s0) (hok:A2w P ops 0 [] [] tr=true) {Q:Exit→Act→World→Prop}
  (hQ:∀ a g w,Go B Iq s0 g0 w0 (Zl P n (fun _=>true) 0 tr s0) g w→B8 n B Iq (Zl P n (fun _=>true) 0 tr s0) g a w→Q .normal a w):
  ∀ (fuel:Nat) (listed:Array Bool) (a:Act) (g:Gh) (w:World),listed.size=ops.size→unl listed ops.size≤fuel→A4x tr (fun i=>listed.getD i false=true)→
   Go B Iq s0 g0 w0 (Zl P n (fun i=>listed.getD i false) 0 tr s0) g w→B8 n B Iq (Zl P n (fun i=>listed.getD i false) 0 tr s0) g a w→wpAny P .any ops Q fuel listed a w:=by
 have hlen:tr.length=ops.size:=by rw [← Array.length_toList,← htr]; simp
 obtain ⟨hconf,hlt⟩:=Aw9 (tr:=tr) (rest:=tr) (done:=[]) (ancs:=[]) rfl rfl hok (by simp) (by simp) (by simp)
 have hdone:∀ (listed:Array Bool) a g w,(∀ j,j < ops.size→listed.getD j false=true)→Go B Iq s0 g0 w0 (Zl P n (fun i=>listed.getD i false) 0 tr s0) g w→
   B8 n B Iq (Zl P n (fun i=>listed.getD i false) 0 tr s0) g a w→Q .normal a w:=by
  intro listed a g w hall h1 h2
  have:Zl P n (fun i=>listed.getD i false) 0 tr s0=Zl P n (fun _=>true) 0 tr s0:=Ai9 (fun j hj=>by
   rw [Nat.zero_add]
   exact hall j (by omega))
  rw [this] at h1 h2
  exact hQ a g w h1 h2
 intro fuel
 induction fuel with
 | zero=>
  intro listed a g w hsz hu hcl h1 h2
  have hall:=Axa listed ops.size (by omega)
  refine ⟨?_,hdone listed a g w hall h1 h2⟩
  cases hr:Region.ready .any ops listed with
  | nil=>rfl
  | cons j r=>
   exfalso
   have hj:j∈Region.ready .any ops listed:=by rw [hr]; simp
   obtain ⟨o,ho,h0,_⟩:=Ao6 hj
   have hlt:=(Array.getElem?_eq_some_iff.1 ho).1
   have:=hall j hlt
   simp [Array.getD,show j < listed.size by omega] at this h0
   rw [this] at h0
   cases h0
 | succ fuel ih=>
  intro listed a g w hsz hu hcl h1 h2
  refine ⟨fun hr=>hdone listed a g w (Azn htr hsz hlt hr) h1 h2,fun i hi=>?_⟩
  obtain ⟨o,ho,h0,hp⟩:=Ao6 hi
  have hil:i < ops.size:=(Array.getElem?_eq_some_iff.1 ho).1
  have hf0:listed.getD i false=false:=by
   rw [← h0]
   simp [Array.getD,show i < listed.size by omega]
  have hte:tr[i]? = some (tr[i]'(by omega)):=List.getElem?_eq_getElem (by omega)
  generalize hen:tr[i]'(by omega)=e at hte
  have heo:e.o=o:=by
   have:ops[i]? = some e.o:=by
    rw [← Array.getElem?_toList,← htr,List.getElem?_map,hte]
    rfl
   rw [ho] at this
   exact (Option.some.inj this).symm
  have hnotbef:∀ j f,tr[j]? = some f→i < j→listed.getD j false=true→Oa P ops e f=true:=by
   intro j f q1 q2 q3
   rcases hconf i j e f hte q1 q2 with q | q
   ·exfalso
    have:=q _ hcl (hcl j f q1 q3)
    rw [hf0] at this
    cases this
   ·exact q
  have hahead:∀ j f,tr[j]? = some f→j < i→listed.getD j false=false→Oa P ops f e=true:=by
   intro j f q1 q2 q3
   rcases hconf j i f e q1 hte q2 with q | q
   ·exfalso
    have:=q _ hcl (fun p hpp=>hp p (by rw [← heo]; exact hpp))
    rw [q3] at this
    cases this
   ·exact q
  have hagree:=Aja (P:=P) (n:=n) (D:=fun i=>listed.getD i false) (e:=e) (tr:=tr) (k:=0) (i:=i) (s:=s0) (t:=s0) ⟨fun _ _=>rfl,fun _ _=>rfl⟩
   (fun j f q1 q2 q3=>by rw [Nat.zero_add] at q3; exact (Agm (hahead j f q1 q2 q3)).1)
   (fun j f q1 q2 q3=>by
    rw [Nat.zero_add] at q3
    by_cases q:j=i
    ·subst q
     rw [hf0] at q3
     cases q3
    ·exact (Agm (hnotbef j f q1 (by omega) q3)).2)
  have hfits:=(Aem.get (k:=0) hfit hte).local hagree.symm
  refine A65 hs h2 hfits (by rw [heo]; exact ho) fun a' g' w' k1 k2=>?_
  have hset:Zl P n (fun j=>(listed.setIfInBounds i true).getD j false) 0 tr s0=e.app P n (Zl P n (fun i=>listed.getD i false) 0 tr s0):=by
   refine A07 (ops:=ops) (i:=i) hte (by rw [Nat.zero_add]; exact hf0) (by rw [Nat.zero_add,Mo listed i i (by omega),if_pos rfl]) (fun j hj=>by rw [Nat.zero_add,Mo listed i j (by omega),if_neg hj]) (fun j f q1 q2 q3=>?_)
   rw [Nat.zero_add] at q3
   exact hnotbef j f q2 q1 q3
  refine ih (listed.setIfInBounds i true) a' g' w' (by simp [hsz]) ?_ ?_ (by rw [hset]; exact h1.trans k1) (by rw [hset]; exact k2)
  ·have:=A09 listed i (by omega) hf0 ops.size hil
   omega
  ·intro k f q1 q2 p q3
   rw [Mo listed i k (by omega)] at q2
   rw [Mo listed i p (by omega)]
   split
   ·rfl
   ·by_cases q:k=i
    ·subst q
     rw [hte] at q1
     cases q1
     exact hp p (by rw [← heo]; exact q3)
    ·rw [if_neg q] at q2
     exact hcl k f q1 q2 p q3
end
end
section
def Axc (l:List (Nat×AV)) (i:Nat):AV:=match l with
 | []=>.dead
 | (j,v)::r=>bif Nat.beq j i then v else Axc r i
def Atd (l:List Qs) (i:Nat):Qs:=match l,i with
 | [],_=>.unborn
 | r::_,0=>r
 | _::l,i + 1=>Atd l i
def Axd (cs:List (Nat×AV)) (rs:List Qs):St:=⟨Axc cs,Atd rs⟩
def Xk (us:List Nat) (id:Nat):Option Nat:=match us with
 | []=>none
 | j::r=>bif Nat.beq j id then some 0 else (Xk r id).map (· + 1)
def Ao7 (s:St) (us:List Nat):Lf→Option Lf
 | .c v=>some (.c v)
 | .sl t xs=>some (.sl t xs)
 | .row id=>match s.res id with
  | .frozen t xs=>some (.sl t xs)
  | _=>(Xk us id).map .row
 | .ptr id off=>(Xk us id).map fun j=>.ptr j off
 | .ep t xs i off=>some (.ep t xs i off)
 | .rp id i off=>(Xk us id).map fun j=>.rp j i off
 | .sp id=>(Xk us id).map fun j=>.sp j
def Ago (s:St) (us:List Nat):List Lf→Option (List Lf)
 | []=>some []
 | l::r=>(Ao7 s us l).bind fun l'=>(Ago s us r).map fun r'=>l'::r'
def A1a (s:St) (us:List Nat):Vl→Option Vl
 | .lf l=>(Ao7 s us l).map .lf
 | .ag ls=>(Ago s us ls).map .ag
def Ajb (s:St) (us:List Nat):List Vl→Option (List Vl)
 | []=>some []
 | l::r=>(A1a s us l).bind fun l'=>(Ajb s us r).map fun r'=>l'::r'
def Ao8 (s:St) (us:List Nat):AV→AV
 | .dead=>.dead
 | .vl v=>match A1a s us v with
  | some v=>.vl v
  | none=>.dead
 | .tp vs=>match Ajb s us vs with
  | some vs=>.tp vs
  | none=>.dead
 | .fn f ls=>match Ago s us ls with
  | some ls=>.fn f ls
  | none=>.dead
def Du (s:St) (us:List Nat):Qs→Qs
 | .box T ls=>match Ago s us ls with
  | some ls=>.box T ls
  | none=>.dead
 | .last e t xs c j=>match Xk us j with
  | some j'=>.last e t xs c j'
  | none=>.dead
 | r=>r
def Agp (s:St):List Lf→List Nat
 | []=>[]
 | .row id::r=>match s.res id with
  | .frozen _ _=>Agp s r
  | _=>id::Agp s r
 | .ptr id _::r=>id::Agp s r
 | .rp id _ _::r=>id::Agp s r
 | .sp id::r=>id::Agp s r
 | _::r=>Agp s r
def A1b:List Vl→List Lf
 | []=>[]
 | v::r=>v.ls++A1b r
def A86:AV→List Lf
 | .dead=>[]
 | .vl v=>v.ls
 | .tp vs=>A1b vs
 | .fn _ ls=>ls
def Ate (s:St):List Nat→List Lf
 | []=>[]
 | i::r=>A86 (s.cell i)++Ate s r
def Au8 (s:St):List Nat→List Lf
 | []=>[]
 | i::r=>(match s.res i with | .box _ ls=>ls | .last _ _ _ _ j=>[.row j] | _=>[])++Au8 s r
def Ao9 (us:List Nat):List Nat→List Nat
 | []=>us
 | i::r=>if Lh us i then Ao9 us r else Ao9 (us++[i]) r
def Bau (n:Nat):List Nat:=List.range n
def Anv (s:St) (np:Nat) (live:List Nat):List Nat:=
 let l0:=Ao9 (Bau np) (Agp s (Ate s live))
 let l1:=Ao9 l0 (Agp s (Au8 s l0))
 Ao9 l1 (Agp s (Au8 s l1))
def Au9 (s:St) (us:List Nat):List Nat→List (Nat×AV)
 | []=>[]
 | i::r=>(i,Ao8 s us (s.cell i))::Au9 s us r
def Arz (s:St) (us:List Nat):List Nat→List Qs
 | []=>[]
 | i::r=>Du s us (s.res i)::Arz s us r
def Acb:Nat→Nat→List Nat→Bool
 | _,0,_=>true
 | k,m + 1,i::r=>Nat.beq i k&&Acb (k + 1) m r
 | _,_ + 1,[]=>false
def canon (np:Nat) (live:List Nat) (s:St):Option (St×Nat):=
 let us:=Anv s np live
 if S1 us&&Acb 0 np us then some (Axd (Au9 s us live) (Arz s us us),us.length) else none
section
variable {P:Program} {n B:Nat} {Iq:List Nat} {s:St} {g:Gh} {a:Act} {w:World}
theorem Atf {us:List Nat} {id j:Nat} (h:Xk us id=some j):us[j]? = some id:=by
 induction us generalizing j with
 | nil=>simp [Xk] at h
 | cons k r ih=>
  simp only [Xk] at h
  cases hq:Nat.beq k id with
  | true=>
   rw [hq] at h
   simp at h
   subst h
   simp [Nat.eq_of_beq_eq_true hq]
  | false=>
   rw [hq] at h
   simp only [cond_false] at h
   obtain ⟨i,h1,rfl⟩:=Option.map_eq_some_iff.1 h
   simpa using ih h1
theorem Atg {us':List Nat}:∀ {us:List Nat} {j:Nat},Atd (Arz s us' us) j=match us[j]? with | some id=>Du s us' (s.res id) | none=>.unborn
 | [],_=>by simp [Arz,Atd]
 | i::r,0=>by simp [Arz,Atd]
 | i::r,j + 1=>by
  simp only [Arz,Atd]
  rw [Atg (us:=r)]
  simp
theorem Ath {us:List Nat}:∀ {l:List Nat} {i:Nat},Axc (Au9 s us l) i=if i∈l then Ao8 s us (s.cell i) else .dead
 | [],i=>by simp [Au9,Axc]
 | j::r,i=>by
  simp only [Au9,Axc]
  cases hq:Nat.beq j i with
  | true=>
   have:=Nat.eq_of_beq_eq_true hq
   subst this
   simp
  | false=>
   have:j≠i:=fun e=>by subst e; simp at hq
   simp only [cond_false]
   rw [Ath (l:=r)]
   simp [Ne.symm this]
section
variable {us live:List Nat}
def Px (s:St) (us:List Nat) (g:Gh):Gh:=⟨fun j=>match us[j]? with | some id=>if (Du s us (s.res id)).live then g.blk id else none | none=>none,fun j=>match us[j]? with | some id=>g.hdr id | none=>undef,g.av⟩
theorem A4z {r:Qs} (h:(Du s us r).live=true):r.live=true:=by
 cases r<;>simp only [Du] at h<;>first | exact h | rfl
theorem A40 {s':St} (hs:∀ j,s'.res j=match us[j]? with | some id=>Du s us (s.res id) | none=>.unborn) (b:Nat) (hb:Ev s g b):Ev s' (Px s us g) b:=by
 refine ⟨hb.1,fun j hl hk=>?_⟩
 rw [hs] at hl
 simp only [Px] at hk
 cases hu:us[j]? with
 | none=>rw [hu] at hl; cases hl
 | some id=>
  rw [hu] at hl hk
  simp only at hl hk
  rw [if_pos hl] at hk
  exact hb.2 id (A4z hl) hk
theorem A1c {s':St} (hs:∀ j,s'.res j=match us[j]? with | some id=>Du s us (s.res id) | none=>.unborn) (hres:∀ id,L4 s g w id (s.res id)):
  ∀ {l l':Lf} {u:Value},Ao7 s us l=some l'→Dr s g w l u→Dr s' (Px s us g) w l' u:=by
 have hS:∀ b,Ev s g b→b < w.heap.size→Ev s' (Px s us g) b∧w.heap[b]? = w.heap[b]? := fun b hb _=>⟨A40 hs b hb,rfl⟩
 have hat:∀ {id j:Nat},Xk us id=some j→s'.res j=Du s us (s.res id)∧(Px s us g).hdr j=g.hdr id∧((Du s us (s.res id)).live=true→(Px s us g).blk j=g.blk id):=by
  intro id j h
  have hu:=Atf h
  refine ⟨by rw [hs,hu],by simp only [Px,hu],fun hl=>by simp only [Px,hu]; rw [if_pos hl]⟩
 intro l l' u h hl
 cases l with
 | c v=>cases h; exact hl
 | sl t xs=>cases h; exact Ty.K_keep hS hl
 | row id=>
  simp only [Ao7] at h
  split at h
  ·rename_i t xs hr
   cases h
   have r:=hres id
   rw [hr] at r
   simp only [Dr,hr] at hl
   rw [hl]
   exact Ty.K_keep hS r.1
  ·rename_i hn
   obtain ⟨j,h1,rfl⟩:=Option.map_eq_some_iff.1 h
   obtain ⟨a1,a2,a3⟩:=hat h1
   simp only [Dr] at hl ⊢
   rw [a1,a2]
   cases hr:s.res id with
   | unborn=>rw [hr] at hl; exact hl.elim
   | dead=>trivial
   | box T ls=>rw [hr] at hl; exact hl.elim
   | row e t xs=>rw [hr] at hl; exact hl
   | frozen t xs=>exact absurd hr (hn t xs)
   | last e t xs c k=>
    rw [hr] at hl
    simp only [Du]
    cases hq:Xk us k with
    | none=>trivial
    | some k'=>exact hl
   | map t xs=>rw [hr] at hl; exact hl
   | iter t xs seen cur=>rw [hr] at hl; exact hl
 | ptr id off=>
  simp only [Ao7] at h
  obtain ⟨j,h1,rfl⟩:=Option.map_eq_some_iff.1 h
  obtain ⟨a1,a2,a3⟩:=hat h1
  simp only [Dr] at hl ⊢
  rw [a1]
  cases hr:s.res id with
  | unborn=>rw [hr] at hl; exact hl.elim
  | dead=>trivial
  | box T ls=>
   rw [hr] at hl a3
   simp only [Du] at a3 ⊢
   cases hq:Ago s us ls with
   | none=>trivial
   | some ls'=>
    rw [hq] at a3
    obtain ⟨b,hb,hu⟩:=hl
    exact ⟨b,(a3 rfl).trans hb,hu⟩
  | row e t xs=>rw [hr] at hl; exact hl.elim
  | frozen t xs=>rw [hr] at hl; exact hl.elim
  | last _ _ _ _ _=>rw [hr] at hl; exact hl.elim
  | map _ _=>rw [hr] at hl; exact hl.elim
  | iter _ _ _ _=>rw [hr] at hl; exact hl.elim
 | ep t xs i off=>
  cases h
  obtain ⟨ad,cs,h1,h2,h3,h4,h5⟩:=hl
  exact ⟨ad,cs,h1,A40 hs _ h2,h3,Ty.K_keep hS h4,h5⟩
 | rp id i off=>
  simp only [Ao7] at h
  obtain ⟨j,h1,rfl⟩:=Option.map_eq_some_iff.1 h
  obtain ⟨a1,a2,a3⟩:=hat h1
  simp only [Dr] at hl ⊢
  rw [a1]
  cases hr:s.res id with
  | unborn=>rw [hr] at hl; exact hl.elim
  | dead=>trivial
  | box T ls=>rw [hr] at hl; exact hl.elim
  | row e t xs=>
   rw [hr] at hl a3
   obtain ⟨hi,b,hb,hu⟩:=hl
   exact ⟨hi,b,(a3 rfl).trans hb,hu⟩
  | frozen t xs=>trivial
  | last e t xs c k=>
   rw [hr] at hl a3
   simp only [Du] at a3 ⊢
   cases hq:Xk us k with
   | none=>trivial
   | some k'=>
    rw [hq] at a3
    obtain ⟨hi,b,hb,hu⟩:=hl
    exact ⟨hi,b,(a3 rfl).trans hb,hu⟩
  | map _ _=>rw [hr] at hl; exact hl.elim
  | iter _ _ _ _=>rw [hr] at hl; exact hl.elim
 | sp id=>
  simp only [Ao7] at h
  obtain ⟨j,h1,rfl⟩:=Option.map_eq_some_iff.1 h
  obtain ⟨a1,a2,a3⟩:=hat h1
  simp only [Dr] at hl ⊢
  rw [a1]
  cases hr:s.res id with
  | unborn=>rw [hr] at hl; exact hl.elim
  | dead=>trivial
  | box T ls=>
   rw [hr] at hl a3
   simp only [Du] at a3 ⊢
   cases hq:Ago s us ls with
   | none=>trivial
   | some ls'=>
    rw [hq] at a3
    rcases hl with hl | ⟨b,hb,hu⟩
    ·exact .inl hl
    ·exact .inr ⟨b,(a3 rfl).trans hb,hu⟩
  | row e t xs=>rw [hr] at hl; exact hl.elim
  | frozen t xs=>rw [hr] at hl; exact hl.elim
  | last _ _ _ _ _=>rw [hr] at hl; exact hl.elim
  | map _ _=>rw [hr] at hl; exact hl.elim
  | iter _ _ _ _=>rw [hr] at hl; exact hl.elim
section
variable {s':St} (hs:∀ j,s'.res j=match us[j]? with | some id=>Du s us (s.res id) | none=>.unborn) (hres:∀ id,L4 s g w id (s.res id))
 include hs hres
theorem Anw:∀ {ls ls':List Lf} {cs:List Value},Ago s us ls=some ls'→Hj s g w ls cs→Hj s' (Px s us g) w ls' cs
 | [],ls',[],h,_=>by cases h; trivial
 | [],_,_::_,_,h=>h.elim
 | _::_,_,[],_,h=>h.elim
 | l::r,ls',c::cs,h,hL=>by
  simp only [Ago] at h
  obtain ⟨l',h1,h2⟩:=A7 h
  obtain ⟨r',h3,rfl⟩:=Option.map_eq_some_iff.1 h2
  exact ⟨⟨A1c hs hres h1 hL.1.1,hL.1.2⟩,Anw h3 hL.2⟩
theorem A1d {v v':Vl} {u:Value} (h:A1a s us v=some v') (hv:VlR s g w v u):VlR s' (Px s us g) w v' u:=by
 cases v with
 | lf l=>
  obtain ⟨l',h1,rfl⟩:=Option.map_eq_some_iff.1 h
  exact ⟨A1c hs hres h1 hv.1,hv.2⟩
 | ag ls=>
  obtain ⟨l',h1,rfl⟩:=Option.map_eq_some_iff.1 h
  obtain ⟨cs,e1,e2⟩:=hv
  exact ⟨cs,e1,Anw hs hres h1 e2⟩
 omit hs hres in
theorem Apa:∀ {vs vs':List Vl} {j:Nat} {v':Vl},Ajb s us vs=some vs'→vs'[j]? = some v'→∃ v,vs[j]? = some v∧A1a s us v=some v'
 | [],vs',j,v',h,hj=>by cases h; simp at hj
 | v::r,vs',j,v',h,hj=>by
  simp only [Ajb] at h
  obtain ⟨l',h1,h2⟩:=A7 h
  obtain ⟨r',h3,rfl⟩:=Option.map_eq_some_iff.1 h2
  cases j with
  | zero=>simp at hj; subst hj; exact ⟨v,rfl,h1⟩
  | succ j=>
   obtain ⟨x,e1,e2⟩:=Apa h3 (j:=j) (by simpa using hj)
   exact ⟨x,by simpa using e1,e2⟩
 omit hs hres in
theorem Apb:∀ {vs vs':List Vl},Ajb s us vs=some vs'→vs'.length=vs.length
 | [],vs',h=>by cases h; rfl
 | v::r,vs',h=>by
  simp only [Ajb] at h
  obtain ⟨l',h1,h2⟩:=A7 h
  obtain ⟨r',h3,rfl⟩:=Option.map_eq_some_iff.1 h2
  simp [Apb h3]
theorem A66 {v:AV} {u:Value} (hv:Ww s g w v u):Ww s' (Px s us g) w (Ao8 s us v) u:=by
 cases v with
 | dead=>trivial
 | vl v=>
  simp only [Ao8]
  split
  ·rename_i v' h
   exact A1d hs hres h hv
  ·trivial
 | tp vs=>
  simp only [Ao8]
  split
  ·rename_i vs' h
   obtain ⟨cs,h1,h2,h3⟩:=hv
   refine ⟨cs,h1,by rw [Apb h]; exact h2,fun j l hl=>?_⟩
   obtain ⟨v,e1,e2⟩:=Apa h hl
   obtain ⟨x,e3,e4⟩:=h3 j v e1
   exact ⟨x,e3,A1d hs hres e2 e4⟩
  ·trivial
 | fn f ls=>
  simp only [Ao8]
  split
  ·rename_i ls' h
   obtain ⟨cs,h1,h2⟩:=hv
   exact ⟨cs,h1,Anw hs hres h h2⟩
  ·trivial
end
end
theorem A41 (h:B8 n B Iq s g a w) {np:Nat} {live:List Nat} {s':St} {nid:Nat} (e:canon np live s=some (s',nid)):
  ∃ g',B8 n B Iq s' g' a w∧g'.av=g.av∧∀ id,id < np→(s'.res id=.unborn→s.res id=.unborn)∧(∀ T ls,s'.res id=.box T ls→(∃ T' ls',s.res id=.box T' ls')∧g'.blk id=g.blk id)∧(∀ e,∀ t:Ty,∀ xs:List t.D,s'.res id=.row e t xs→(∃ e',∃ xs':List t.D,s.res id=.row e' t xs')∧g'.blk id=g.blk id∧g'.hdr id=g.hdr id):=by
 unfold canon at e
 dsimp only at e
 generalize hus:Anv s np live=us at e
 split at e<;>cases e
 rename_i hc
 simp only [Bool.and_eq_true] at hc
 have hnd:=Af6 hc.1
 have hs:∀ j,(Axd (Au9 s us live) (Arz s us us)).res j=match us[j]? with | some id=>Du s us (s.res id) | none=>.unborn:=fun j=>Atg
 have hcell:∀ i,(Axd (Au9 s us live) (Arz s us us)).cell i=if i∈live then Ao8 s us (s.cell i) else .dead:=fun i=>Ath
 generalize Axd (Au9 s us live) (Arz s us us)=s' at hs hcell ⊢
 have hst:∀ k m l,Acb k m l=true→∀ j,j < m→l[j]? = some (k + j):=by
  intro k m
  induction m generalizing k with
  | zero=>intro l _ j hj; omega
  | succ m ih=>
   intro l hl j hj
   cases l with
   | nil=>simp [Acb] at hl
   | cons i r=>
    simp only [Acb,Bool.and_eq_true] at hl
    cases j with
    | zero=>simp [Nat.eq_of_beq_eq_true hl.1]
    | succ j=>
     have:=ih (k + 1) r hl.2 j (by omega)
     rw [List.getElem?_cons_succ,this]
     congr 1
     omega
 have hpin:∀ id,id < np→us[id]? = some id:=fun id hid=>by have:=hst 0 np us hc.2 id hid; simpa using this
 have blk_of:∀ j b,(Px s us g).blk j=some b→∃ id,us[j]? = some id∧g.blk id=some b∧(Du s us (s.res id)).live=true:=by
  intro j b hb
  simp only [Px] at hb
  cases hu:us[j]? with
  | none=>rw [hu] at hb; cases hb
  | some id=>
   rw [hu] at hb
   simp only at hb
   split at hb
   ·rename_i hl
    exact ⟨id,rfl,hb,hl⟩
   ·cases hb
 refine ⟨Px s us g,⟨h.size,h.defers,h.base,fun i=>?_,fun j=>?_,fun i j b hi hj=>?_,fun j b hb=>?_,h.avB⟩,rfl,fun id hid=>?_⟩
 ·rw [hcell]
  split
  ·exact A66 hs h.res (h.cell i)
  ·trivial
 ·rw [hs]
  cases hu:us[j]? with
  | none=>show (Px s us g).blk j=none; simp only [Px,hu]
  | some id=>
   simp only
   have r:=h.res id
   have hblk:(Px s us g).blk j=if (Du s us (s.res id)).live then g.blk id else none:=by simp only [Px,hu]
   have hhdr:(Px s us g).hdr j=g.hdr id:=by simp only [Px,hu]
   have hSS:∀ b,Ev s g b→b < w.heap.size→Ev s' (Px s us g) b:=fun b hb _=>A40 hs b hb
   cases hr:s.res id with
   | unborn=>rw [hr] at hblk; exact hblk
   | dead=>rw [hr] at hblk; exact hblk
   | box T ls=>
    rw [hr] at r hblk
    cases hq:Ago s us ls with
    | none=>
     have hrr:Du s us (.box T ls)=.dead:=by simp only [Du,hq]
     rw [hrr] at hblk ⊢
     exact hblk
    | some ls'=>
     have hrr:Du s us (.box T ls)=.box T ls':=by simp only [Du,hq]
     rw [hrr] at hblk ⊢
     obtain ⟨b,cs,h1,h2,h3⟩:=r
     exact ⟨b,cs,hblk.trans h1,h2,Anw hs h.res hq h3⟩
   | row e t xs=>
    rw [hr] at r hblk
    obtain ⟨cs,h1,h2,h3⟩:=r
    exact ⟨cs,by rw [hhdr]; exact h1,h2.imp hSS,by rw [hhdr]; exact hblk.trans h3⟩
   | frozen t xs=>
    rw [hr] at r hblk
    exact ⟨by rw [hhdr]; exact Ty.K_keep (fun b hb hl=>⟨hSS b hb hl,rfl⟩) r.1,hblk⟩
   | last e t xs c k=>
    rw [hr] at r hblk
    cases hq:Xk us k with
    | none=>
     have hrr:Du s us (.last e t xs c k)=.dead:=by simp only [Du,hq]
     rw [hrr] at hblk ⊢
     exact hblk
    | some k'=>
     have hrr:Du s us (.last e t xs c k)=.last e t xs c k':=by simp only [Du,hq]
     rw [hrr] at hblk ⊢
     obtain ⟨cs,h1,h2,h3,h4⟩:=r
     refine ⟨cs,by rw [hhdr]; exact h1,h2.imp hSS,by rw [hhdr]; exact hblk.trans h3,fun u hc hu=>?_⟩
     have h5:=h4 u hc hu
     have hk':=Atf hq
     have e1:s'.res k'=Du s us (s.res k):=by rw [hs,hk']
     have e2:(Px s us g).hdr k'=g.hdr k:=by simp only [Px,hk']
     rw [e1,e2]
     cases hrk:s.res k with
     | unborn=>rw [hrk] at h5; exact h5.elim
     | dead=>trivial
     | box T ls=>rw [hrk] at h5; exact h5.elim
     | row _ _ _=>rw [hrk] at h5; exact h5
     | frozen _ _=>rw [hrk] at h5; exact h5
     | last _ _ _ _ _=>rw [hrk] at h5; exact h5.elim
     | map _ _=>rw [hrk] at h5; exact h5.elim
     | iter _ _ _ _=>rw [hrk] at h5; exact h5.elim
   | map t xs=>
    rw [hr] at r hblk
    obtain ⟨b,es,clock,h1,h2,h3⟩:=r
    exact ⟨b,es,clock,hblk.trans h1,hhdr.trans h2,h3⟩
   | iter t xs seen cur=>
    rw [hr] at r hblk
    obtain ⟨b,r,es,clock,since,c0,sn,h1,h2,h3,h4,h5,h6⟩:=r
    exact ⟨b,r,es,clock,since,c0,sn,hblk.trans h1,hhdr.trans h2,h3,hSS b h4 h5,h5,h6⟩
 ·obtain ⟨i0,e1,e2,_⟩:=blk_of i b hi
  obtain ⟨j0,e3,e4,_⟩:=blk_of j b hj
  have:=h.inj i0 j0 b e2 e4
  subst this
  have hil:=(List.getElem?_eq_some_iff.1 e1).1
  exact (List.getElem?_inj hil hnd).1 (e1.trans e3.symm)
 ·obtain ⟨id,e1,e2,_⟩:=blk_of j b hb
  exact h.lt id b e2
 ·have hu:=hpin id hid
  have hsr:s'.res id=Du s us (s.res id):=by rw [hs,hu]
  have hb:(Px s us g).blk id=if (Du s us (s.res id)).live then g.blk id else none:=by simp only [Px,hu]
  have hh:(Px s us g).hdr id=g.hdr id:=by simp only [Px,hu]
  refine ⟨fun hq=>?_,fun T ls hq=>?_,fun e t xs hq=>?_⟩
  ·rw [hsr] at hq
   cases hr:s.res id with
   | unborn=>rfl
   | box T ls=>
    rw [hr] at hq
    simp only [Du] at hq
    split at hq<;>cases hq
   | dead=>rw [hr] at hq; cases hq
   | row e t xs=>rw [hr] at hq; cases hq
   | frozen t xs=>rw [hr] at hq; cases hq
   | last _ _ _ _ _=>
    rw [hr] at hq
    simp only [Du] at hq
    split at hq<;>cases hq
   | map _ _=>rw [hr] at hq; cases hq
   | iter _ _ _ _=>rw [hr] at hq; cases hq
  ·rw [hsr] at hq
   rw [hq] at hb
   refine ⟨?_,hb⟩
   cases hr:s.res id with
   | unborn=>rw [hr] at hq; cases hq
   | box T ls=>exact ⟨T,ls,rfl⟩
   | dead=>rw [hr] at hq; cases hq
   | row e t xs=>rw [hr] at hq; cases hq
   | frozen t xs=>rw [hr] at hq; cases hq
   | last _ _ _ _ _=>
    rw [hr] at hq
    simp only [Du] at hq
    split at hq<;>cases hq
   | map _ _=>rw [hr] at hq; cases hq
   | iter _ _ _ _=>rw [hr] at hq; cases hq
  ·rw [hsr] at hq
   rw [hq] at hb
   refine ⟨?_,hb,hh⟩
   cases hr:s.res id with
   | unborn=>rw [hr] at hq; cases hq
   | box T ls=>
    rw [hr] at hq
    simp only [Du] at hq
    split at hq<;>cases hq
   | dead=>rw [hr] at hq; cases hq
   | row e t xs=>rw [hr] at hq; cases hq; exact ⟨e,xs,rfl⟩
   | frozen t xs=>rw [hr] at hq; cases hq
   | last _ _ _ _ _=>
    rw [hr] at hq
    simp only [Du] at hq
    split at hq<;>cases hq
   | map _ _=>rw [hr] at hq; cases hq
   | iter _ _ _ _=>rw [hr] at hq; cases hq
end
end
section
inductive Pe where
 | d (t:Ty)
 | row (id:Nat)
 | ptr (id off:Nat)
 | sp (id:Nat)
inductive Pv where
 | dead
 | lf (p:Pe)
 | ag (ps:List Pe)
 | fn (f:FuncId) (ps:List Pe)
inductive Pr where
 | dead
 | unborn
 | box (T:TypeId) (ps:List Pe)
 | row (e:TypeId) (t:Ty)
 | last (e:TypeId) (t:Ty) (j:Nat)
 | map (t:Ty)
 | iter (t:Ty)
inductive Fx where
 | sl (slot ix:Nat) (t:Ty)
 | row (slot ix:Nat) (e:TypeId) (t:Ty)
 | boxSl (slot ix:Nat) (t:Ty)
 | boxRow (slot ix:Nat) (e:TypeId) (t:Ty)
 | self (slot ix:Nat)
 | last (slot:Nat) (e:TypeId) (t:Ty)
structure Dv where
 fx:List Fx
 cs:List (Nat×Pv)
 rs:List Pr
def Apc:List Pe→Type→Type
 | [],X=>X
 | .d t::r,X=>t.D×Apc r X
 | .row _::r,X=>Apc r X
 | .ptr _ _::r,X=>Apc r X
 | .sp _::r,X=>Apc r X
def PvD:Pv→Type→Type
 | .dead,X=>X
 | .lf p,X=>Apc [p] X
 | .ag ps,X=>Apc ps X
 | .fn _ ps,X=>Apc ps X
def CsD:List (Nat×Pv)→Type→Type
 | [],X=>X
 | p::r,X=>PvD p.2 (CsD r X)
def PrD:Pr→Type→Type
 | .dead,X=>X
 | .unborn,X=>X
 | .box _ ps,X=>Apc ps X
 | .row _ t,X=>List t.D×X
 | .last _ t _,X=>List (List t.D)×Bool×X
 | .map t,X=>List (Ab×t.D)×X
 | .iter t,X=>List (Ab×t.D)×List (Ab×t.D)×Option (Ab×t.D)×X
def RsD:List Pr→Type→Type
 | [],X=>X
 | p::r,X=>PrD p (RsD r X)
def Dv.D (p:Dv):Type:=CsD p.cs (RsD p.rs Unit)
section
variable {X:Type}
def Bl:(ps:List Pe)→Apc ps X→List Lf×X
 | [],d=>([],d)
 | .d t::r,d=>(t.leafs d.1++(Bl r d.2).1,(Bl r d.2).2)
 | .row id::r,d=>(.row id::(Bl r d).1,(Bl r d).2)
 | .ptr id off::r,d=>(.ptr id off::(Bl r d).1,(Bl r d).2)
 | .sp id::r,d=>(.sp id::(Bl r d).1,(Bl r d).2)
def A42:List Lf→AV
 | [l]=>.vl (.lf l)
 | _=>.dead
def Vm:(p:Pv)→PvD p X→AV×X
 | .dead,d=>(.dead,d)
 | .lf p,d=>(A42 (Bl [p] d).1,(Bl [p] d).2)
 | .ag ps,d=>(.vl (.ag (Bl ps d).1),(Bl ps d).2)
 | .fn f ps,d=>(.fn f (Bl ps d).1,(Bl ps d).2)
def Vn:(l:List (Nat×Pv))→CsD l X→List (Nat×AV)×X
 | [],d=>([],d)
 | p::r,d=>((p.1,(Vm p.2 d).1)::(Vn r (Vm p.2 d).2).1,(Vn r (Vm p.2 d).2).2)
def Xl:(p:Pr)→PrD p X→Qs×X
 | .dead,d=>(.dead,d)
 | .unborn,d=>(.unborn,d)
 | .box T ps,d=>(.box T (Bl ps d).1,(Bl ps d).2)
 | .row e t,d=>(.row e t d.1,d.2)
 | .last e t j,d=>(.last e t d.1 d.2.1 j,d.2.2)
 | .map t,d=>(.map t d.1,d.2)
 | .iter t,d=>(.iter t d.1 d.2.1 d.2.2.1,d.2.2.2)
def Z9:(l:List Pr)→RsD l X→List Qs×X
 | [],d=>([],d)
 | p::r,d=>((Xl p d).1::(Z9 r (Xl p d).2).1,(Z9 r (Xl p d).2).2)
end
def Dv.st (p:Dv) (d:p.D):St:=Axd (Vn p.cs d).1 (Z9 p.rs (Vn p.cs d).2).1
def Dv.nid (p:Dv):Nat:=p.rs.length
def Azo:(t:Ty)→Lf→Option t.D
 | .int k,.c (.int k' n)=>if k'=k then some n else none
 | .bool,.c (.bool b)=>some b
 | .str,.c (.string b)=>some b
 | .sl t,.sl t' xs=>if h:t'=t then some (h ▸ xs) else none
 | _,_=>none
def Wy:(t:Ty)→List Lf→Option (t.D×List Lf)
 | .unit,ls=>some ((),ls)
 | .pair a b,ls=>(Wy a ls).bind fun p=>(Wy b p.2).bind fun q=>some ((p.1,q.1),q.2)
 | .int k,l::r=>(Azo (.int k) l).bind fun x=>some (x,r)
 | .bool,l::r=>(Azo .bool l).bind fun x=>some (x,r)
 | .str,l::r=>(Azo .str l).bind fun x=>some (x,r)
 | .sl t,l::r=>(Azo (.sl t) l).bind fun x=>some (x,r)
 | _,[]=>none
def Ava (id:Nat):List Lf→Option (List Lf)
 | .row j::r=>if j=id then some r else none
 | _=>none
def Avb (id off:Nat):List Lf→Option (List Lf)
 | .ptr j o::r=>if j=id then (if o=off then some r else none) else none
 | _=>none
def Azp (id:Nat):List Lf→Option (List Lf)
 | .sp j::r=>if j=id then some r else none
 | _=>none
def A90 {X:Type} (k:Option X):List Lf→Option X
 | []=>k
 | _::_=>none
section
variable {X:Type} (k:Option X)
def Py:(ps:List Pe)→List Lf→Option (Apc ps X)
 | [],ls=>A90 k ls
 | .d t::r,ls=>(Wy t ls).bind fun p=>(Py r p.2).bind fun q=>some (p.1,q)
 | .row id::r,ls=>(Ava id ls).bind fun ls'=>Py r ls'
 | .ptr id off::r,ls=>(Avb id off ls).bind fun ls'=>Py r ls'
 | .sp id::r,ls=>(Azp id ls).bind fun ls'=>Py r ls'
def Bav:AV→Option (List Lf)
 | .vl (.ag ls)=>some ls
 | _=>none
def A91 (f:FuncId):AV→Option (List Lf)
 | .fn f' ls=>if f'=f then some ls else none
 | _=>none
def Baw:AV→Option Lf
 | .vl (.lf l)=>some l
 | _=>none
def A87:AV→Option Unit
 | .dead=>some ()
 | _=>none
def A43:(p:Pv)→AV→Option (PvD p X)
 | .dead,v=>(A87 v).bind fun _=>k
 | .lf p,v=>(Baw v).bind fun l=>Py k [p] [l]
 | .ag ps,v=>(Bav v).bind fun ls=>Py k ps ls
 | .fn f ps,v=>(A91 f v).bind fun ls=>Py k ps ls
def A8e (T:TypeId):Qs→Option (List Lf)
 | .box T' ls=>if T'=T then some ls else none
 | _=>none
def Axe (e:TypeId) (t:Ty):Qs→Option (List t.D)
 | .row e' t' xs=>if e'=e then (if h:t'=t then some (h ▸ xs) else none) else none
 | _=>none
def A44 (e:TypeId) (t:Ty) (j:Nat):Qs→Option (List (List t.D)×Bool)
 | .last e' t' xs c j'=>if e'=e then (if j'=j then (if h:t'=t then some (h ▸ xs,c) else none) else none) else none
 | _=>none
def A8f (t:Ty):Qs→Option (List (Ab×t.D))
 | .map t' xs=>if h:t'=t then some (h ▸ xs) else none
 | _=>none
def A45 (t:Ty):Qs→Option (List (Ab×t.D)×List (Ab×t.D)×Option (Ab×t.D))
 | .iter t' xs seen cur=>if h:t'=t then some (h ▸ xs,h ▸ seen,h ▸ cur) else none
 | _=>none
def A67:Qs→Option Unit
 | .dead=>some ()
 | _=>none
def A2y:Qs→Option Unit
 | .unborn=>some ()
 | _=>none
def A8g:(p:Pr)→Qs→Option (PrD p X)
 | .dead,v=>(A67 v).bind fun _=>k
 | .unborn,v=>(A2y v).bind fun _=>k
 | .box T ps,v=>(A8e T v).bind fun ls=>Py k ps ls
 | .row e t,v=>(Axe e t v).bind fun xs=>k.bind fun x=>some (xs,x)
 | .last e t j,v=>(A44 e t j v).bind fun xs=>k.bind fun x=>some (xs.1,xs.2,x)
 | .map t,v=>(A8f t v).bind fun xs=>k.bind fun x=>some (xs,x)
 | .iter t,v=>(A45 t v).bind fun xs=>k.bind fun x=>some (xs.1,xs.2.1,xs.2.2,x)
end
def A92 {X:Type} (k:Option X) {α:Type}:List α→Option X
 | []=>k
 | _::_=>none
def A88 {α:Type}:List α→Option (α×List α)
 | []=>none
 | a::r=>some (a,r)
def Axf {X:Type} (k:Option X):(l:List (Nat×Pv))→List (Nat×AV)→Option (CsD l X)
 | [],cs=>A92 k cs
 | p::r,cs=>(A88 cs).bind fun q=>if q.1.1=p.1 then A43 (Axf k r q.2) p.2 q.1.2 else none
def A1f {X:Type} (k:Option X):(l:List Pr)→List Qs→Option (RsD l X)
 | [],rs=>A92 k rs
 | p::r,rs=>(A88 rs).bind fun q=>A8g (A1f k r q.2) p q.1
theorem Wz {α β:Type} {a a':α} {b b':β} (h1:a=a') (h2:b=b'):(a,b)=(a',b'):=by rw [h1,h2]
theorem Azq:∀ {t:Ty} {l:Lf} {x:t.D},Azo t l=some x→t.leafs x=[l]:=by
 intro t l x h
 unfold Azo at h
 split at h
 ·split at h<;>cases h
  rename_i hk
  subst hk
  rfl
 ·cases h; rfl
 ·cases h; rfl
 ·split at h<;>cases h
  rename_i hk
  subst hk
  rfl
 ·cases h
theorem Avc:∀ {t:Ty} {ls:List Lf} {x:t.D} {r:List Lf},Wy t ls=some (x,r)→ls=t.leafs x++r:=by
 have one:∀ {t:Ty} {l:Lf} {r0 r:List Lf} {x:t.D},((Azo t l).bind fun x=>some (x,r0))=some (x,r)→l::r0=t.leafs x++r:=by
  intro t l r0 r x h
  obtain ⟨y,h1,h2⟩:=A7 h
  cases h2
  rw [Azq h1]
  rfl
 intro t
 induction t with
 | unit=>intro ls x r h; simp only [Wy] at h; cases h; rfl
 | pair a b iha ihb=>
  intro ls x r h
  simp only [Wy] at h
  obtain ⟨p,h1,h2⟩:=A7 h
  obtain ⟨q,h3,h4⟩:=A7 h2
  cases h4
  have e1:=iha (x:=p.1) (r:=p.2) h1
  have e2:=ihb (x:=q.1) (r:=q.2) h3
  rw [e1,e2,← List.append_assoc]
  rfl
 | int k=>intro ls x r h; cases ls with
  | nil=>simp [Wy] at h
  | cons l ls=>exact one h
 | bool=>intro ls x r h; cases ls with
  | nil=>simp [Wy] at h
  | cons l ls=>exact one h
 | str=>intro ls x r h; cases ls with
  | nil=>simp [Wy] at h
  | cons l ls=>exact one h
 | sl t _=>intro ls x r h; cases ls with
  | nil=>simp [Wy] at h
  | cons l ls=>exact one h
theorem Azr {id:Nat} {ls r:List Lf} (h:Ava id ls=some r):ls=.row id::r:=by
 unfold Ava at h
 split at h
 ·split at h<;>cases h
  rename_i hj
  rw [hj]
 ·cases h
theorem A2z {id:Nat} {ls r:List Lf} (h:Azp id ls=some r):ls=.sp id::r:=by
 unfold Azp at h
 split at h
 ·split at h<;>cases h
  rename_i hj
  rw [hj]
 ·cases h
theorem Azs {id off:Nat} {ls r:List Lf} (h:Avb id off ls=some r):ls=.ptr id off::r:=by
 unfold Avb at h
 split at h
 ·split at h
  ·rename_i hj
   split at h<;>cases h
   rename_i ho
   rw [hj,ho]
  ·cases h
 ·cases h
section
variable {X:Type} {k:Option X}
theorem Ll:∀ {ps:List Pe} {ls:List Lf} {d:Apc ps X},Py k ps ls=some d→∃ x,k=some x∧Bl ps d=(ls,x)
 | [],ls,d,h=>by
  cases ls with
  | nil=>exact ⟨d,h,rfl⟩
  | cons l ls=>cases h
 | .d t::r,ls,d,h=>by
  simp only [Py] at h
  obtain ⟨p,h1,h2⟩:=A7 h
  obtain ⟨q,h3,h4⟩:=A7 h2
  cases h4
  obtain ⟨x,e1,e2⟩:=Ll h3
  refine ⟨x,e1,?_⟩
  show (t.leafs p.1++(Bl r q).1,(Bl r q).2)=_
  rw [e2,Avc (x:=p.1) (r:=p.2) h1]
 | .row id::r,ls,d,h=>by
  simp only [Py] at h
  obtain ⟨ls',h1,h2⟩:=A7 h
  obtain ⟨x,e1,e2⟩:=Ll (ps:=r) (d:=d) h2
  refine ⟨x,e1,?_⟩
  show (Lf.row id::(Bl r d).1,(Bl r d).2)=_
  have e2':Bl r (X:=X) d=(ls',x):=e2
  rw [Azr h1]
  have a1:(Bl r (X:=X) d).1=ls':=congrArg Prod.fst e2'
  have a2:(Bl r (X:=X) d).2=x:=congrArg Prod.snd e2'
  exact Wz (congrArg (List.cons (Lf.row id)) a1) a2
 | .ptr id off::r,ls,d,h=>by
  simp only [Py] at h
  obtain ⟨ls',h1,h2⟩:=A7 h
  obtain ⟨x,e1,e2⟩:=Ll (ps:=r) (d:=d) h2
  refine ⟨x,e1,?_⟩
  show (Lf.ptr id off::(Bl r d).1,(Bl r d).2)=_
  have e2':Bl r (X:=X) d=(ls',x):=e2
  rw [Azs h1]
  have a1:(Bl r (X:=X) d).1=ls':=congrArg Prod.fst e2'
  have a2:(Bl r (X:=X) d).2=x:=congrArg Prod.snd e2'
  exact Wz (congrArg (List.cons (Lf.ptr id off)) a1) a2
 | .sp id::r,ls,d,h=>by
  simp only [Py] at h
  obtain ⟨ls',h1,h2⟩:=A7 h
  obtain ⟨x,e1,e2⟩:=Ll (ps:=r) (d:=d) h2
  refine ⟨x,e1,?_⟩
  show (Lf.sp id::(Bl r d).1,(Bl r d).2)=_
  have e2':Bl r (X:=X) d=(ls',x):=e2
  rw [A2z h1]
  have a1:(Bl r (X:=X) d).1=ls':=congrArg Prod.fst e2'
  have a2:(Bl r (X:=X) d).2=x:=congrArg Prod.snd e2'
  exact Wz (congrArg (List.cons (Lf.sp id)) a1) a2
theorem A20 {p:Pv} {v:AV} {d:PvD p X} (h:A43 k p v=some d):∃ x,k=some x∧Vm p d=(v,x):=by
 cases p with
 | dead=>
  obtain ⟨u,h1,h2⟩:=A7 h
  cases v<;>first | (cases h1; done) | skip
  exact ⟨d,h2,rfl⟩
 | lf p=>
  obtain ⟨l,h1,h2⟩:=A7 h
  have hv:v=.vl (.lf l):=by
   cases v with
   | vl w=>cases w with
    | lf l'=>cases h1; rfl
    | ag ls=>cases h1
   | dead=>cases h1
   | tp vs=>cases h1
   | fn f ls=>cases h1
  subst hv
  obtain ⟨x,e1,e2⟩:=Ll (ps:=[p]) (d:=d) h2
  refine ⟨x,e1,?_⟩
  show (A42 (Bl [p] d).1,(Bl [p] d).2)=_
  have e2':Bl [p] (X:=X) d=([l],x):=e2
  have a1:(Bl [p] (X:=X) d).1=[l]:=congrArg Prod.fst e2'
  have a2:(Bl [p] (X:=X) d).2=x:=congrArg Prod.snd e2'
  exact Wz (congrArg A42 a1) a2
 | ag ps=>
  obtain ⟨l,h1,h2⟩:=A7 h
  have hv:v=.vl (.ag l):=by
   cases v with
   | vl w=>cases w with
    | lf l'=>cases h1
    | ag ls=>cases h1; rfl
   | dead=>cases h1
   | tp vs=>cases h1
   | fn f ls=>cases h1
  subst hv
  obtain ⟨x,e1,e2⟩:=Ll (ps:=ps) (d:=d) h2
  refine ⟨x,e1,?_⟩
  show (AV.vl (.ag (Bl ps d).1),(Bl ps d).2)=_
  have e2':Bl ps (X:=X) d=(l,x):=e2
  have a1:(Bl ps (X:=X) d).1=l:=congrArg Prod.fst e2'
  have a2:(Bl ps (X:=X) d).2=x:=congrArg Prod.snd e2'
  exact Wz (congrArg (fun l=>AV.vl (.ag l)) a1) a2
 | fn f ps=>
  obtain ⟨l,h1,h2⟩:=A7 h
  have hv:v=.fn f l:=by
   cases v with
   | vl w=>cases h1
   | dead=>cases h1
   | tp vs=>cases h1
   | fn f' ls=>
    simp only [A91] at h1
    split at h1<;>cases h1
    rename_i hf
    rw [hf]
  subst hv
  obtain ⟨x,e1,e2⟩:=Ll (ps:=ps) (d:=d) h2
  refine ⟨x,e1,?_⟩
  show (AV.fn f (Bl ps d).1,(Bl ps d).2)=_
  have e2':Bl ps (X:=X) d=(l,x):=e2
  have a1:(Bl ps (X:=X) d).1=l:=congrArg Prod.fst e2'
  have a2:(Bl ps (X:=X) d).2=x:=congrArg Prod.snd e2'
  exact Wz (congrArg (fun l=>AV.fn f l) a1) a2
theorem A21 {p:Pr} {v:Qs} {d:PrD p X} (h:A8g k p v=some d):∃ x,k=some x∧Xl p d=(v,x):=by
 cases p with
 | dead=>
  obtain ⟨u,h1,h2⟩:=A7 h
  cases v<;>first | (cases h1; done) | skip
  exact ⟨d,h2,rfl⟩
 | unborn=>
  obtain ⟨u,h1,h2⟩:=A7 h
  cases v<;>first | (cases h1; done) | skip
  exact ⟨d,h2,rfl⟩
 | box T ps=>
  obtain ⟨ls,h1,h2⟩:=A7 h
  have hv:v=.box T ls:=by
   unfold A8e at h1
   split at h1
   ·split at h1<;>cases h1
    rename_i hT
    rw [hT]
   ·cases h1
  subst hv
  obtain ⟨x,e1,e2⟩:=Ll (ps:=ps) (d:=d) h2
  refine ⟨x,e1,?_⟩
  show (Qs.box T (Bl ps d).1,(Bl ps d).2)=_
  have e2':Bl ps (X:=X) d=(ls,x):=e2
  have a1:(Bl ps (X:=X) d).1=ls:=congrArg Prod.fst e2'
  have a2:(Bl ps (X:=X) d).2=x:=congrArg Prod.snd e2'
  exact Wz (congrArg (Qs.box T) a1) a2
 | row e t=>
  obtain ⟨xs,h1,h2⟩:=A7 h
  obtain ⟨x,h3,h4⟩:=A7 h2
  have hv:v=.row e t xs:=by
   unfold Axe at h1
   split at h1
   ·split at h1
    ·rename_i he
     split at h1<;>cases h1
     rename_i ht
     subst he ht
     rfl
    ·cases h1
   ·cases h1
  subst hv
  have hd:d=(xs,x):=(Option.some.inj h4).symm
  subst hd
  exact ⟨x,h3,rfl⟩
 | last e t j=>
  obtain ⟨xs,h1,h2⟩:=A7 h
  obtain ⟨x,h3,h4⟩:=A7 h2
  have hv:v=.last e t xs.1 xs.2 j:=by
   unfold A44 at h1
   split at h1
   ·split at h1
    ·rename_i he
     split at h1
     ·rename_i hj
      split at h1<;>cases h1
      rename_i ht
      subst he ht hj
      rfl
     ·cases h1
    ·cases h1
   ·cases h1
  subst hv
  have hd:d=(xs.1,xs.2,x):=(Option.some.inj h4).symm
  subst hd
  exact ⟨x,h3,rfl⟩
 | map t=>
  obtain ⟨xs,h1,h2⟩:=A7 h
  obtain ⟨x,h3,h4⟩:=A7 h2
  have hv:v=.map t xs:=by
   unfold A8f at h1
   split at h1
   ·split at h1<;>cases h1
    rename_i ht
    subst ht
    rfl
   ·cases h1
  subst hv
  have hd:d=(xs,x):=(Option.some.inj h4).symm
  subst hd
  exact ⟨x,h3,rfl⟩
 | iter t=>
  obtain ⟨xs,h1,h2⟩:=A7 h
  obtain ⟨x,h3,h4⟩:=A7 h2
  have hv:v=.iter t xs.1 xs.2.1 xs.2.2:=by
   unfold A45 at h1
   split at h1
   ·split at h1<;>cases h1
    rename_i ht
    subst ht
    rfl
   ·cases h1
  subst hv
  have hd:d=(xs.1,xs.2.1,xs.2.2,x):=(Option.some.inj h4).symm
  subst hd
  exact ⟨x,h3,rfl⟩
end
theorem A1g {α:Type} {l:List α} {q:α×List α} (h:A88 l=some q):l=q.1::q.2:=by
 cases l with
 | nil=>cases h
 | cons a r=>cases h; rfl
theorem Ati {X:Type} {k:Option X}:∀ {l:List (Nat×Pv)} {cs:List (Nat×AV)} {d:CsD l X},Axf k l cs=some d→∃ x,k=some x∧Vn l d=(cs,x)
 | [],cs,d,h=>by
  cases cs with
  | nil=>exact ⟨d,h,rfl⟩
  | cons l ls=>cases h
 | p::r,cs,d,h=>by
  simp only [Axf] at h
  obtain ⟨q,h1,h2⟩:=A7 h
  rw [A1g h1]
  have h2:(if q.1.1=p.1 then A43 (Axf k r q.2) p.2 q.1.2 else none:Option (PvD p.2 (CsD r X)))=some d:=h2
  split at h2
  ·rename_i hi
   obtain ⟨y,e1,e2⟩:=A20 (d:=d) h2
   obtain ⟨x,e3,e4⟩:=Ati e1
   refine ⟨x,e3,?_⟩
   show ((p.1,(Vm p.2 d).1)::(Vn r (Vm p.2 d).2).1,(Vn r (Vm p.2 d).2).2)=_
   have e2':Vm p.2 (X:=CsD r X) d=(q.1.2,y):=e2
   have a1:(Vm p.2 (X:=CsD r X) d).1=q.1.2:=congrArg Prod.fst e2'
   have a2:(Vm p.2 (X:=CsD r X) d).2=y:=congrArg Prod.snd e2'
   have a3:Vn r (Vm p.2 (X:=CsD r X) d).2=(q.2,x):=(congrArg (Vn r) a2).trans e4
   have a4:(Vn r (Vm p.2 (X:=CsD r X) d).2).1=q.2:=congrArg Prod.fst a3
   have a5:(Vn r (Vm p.2 (X:=CsD r X) d).2).2=x:=congrArg Prod.snd a3
   have a6:(p.1,(Vm p.2 (X:=CsD r X) d).1)=q.1:=(Wz hi.symm a1).trans rfl
   exact Wz (congr (congrArg List.cons a6) a4) a5
  ·cases h2
theorem Atj {X:Type} {k:Option X}:∀ {l:List Pr} {rs:List Qs} {d:RsD l X},A1f k l rs=some d→∃ x,k=some x∧Z9 l d=(rs,x)
 | [],rs,d,h=>by
  cases rs with
  | nil=>exact ⟨d,h,rfl⟩
  | cons l ls=>cases h
 | p::r,rs,d,h=>by
  simp only [A1f] at h
  obtain ⟨q,h1,h2⟩:=A7 h
  rw [A1g h1]
  obtain ⟨y,e1,e2⟩:=A21 (d:=d) h2
  obtain ⟨x,e3,e4⟩:=Atj e1
  refine ⟨x,e3,?_⟩
  show ((Xl p d).1::(Z9 r (Xl p d).2).1,(Z9 r (Xl p d).2).2)=_
  have e2':Xl p (X:=RsD r X) d=(q.1,y):=e2
  have a1:(Xl p (X:=RsD r X) d).1=q.1:=congrArg Prod.fst e2'
  have a2:(Xl p (X:=RsD r X) d).2=y:=congrArg Prod.snd e2'
  have a3:Z9 r (Xl p (X:=RsD r X) d).2=(q.2,x):=(congrArg (Z9 r) a2).trans e4
  have a4:(Z9 r (Xl p (X:=RsD r X) d).2).1=q.2:=congrArg Prod.fst a3
  have a5:(Z9 r (Xl p (X:=RsD r X) d).2).2=x:=congrArg Prod.snd a3
  exact Wz (congr (congrArg List.cons a1) a4) a5
def A1h:Lf→Bool
 | .c (.slice none 0 0)=>true
 | _=>false
def Atk (v:Vl) (i:Nat) (l:Lf):Vl:=match v with
 | .lf l0=>if i=0 then .lf l else .lf l0
 | .ag ls=>.ag (ls.set i l)
def Atl (ls:List Lf) (i:Nat):Bool:=match ls[i]? with
 | some l=>A1h l
 | none=>false
def A46 (id:Nat) (ls:List Lf) (i:Nat):Bool:=match ls[i]? with
 | some (.c (.pointer none))=>true
 | some (.ptr j 0)=>Nat.beq j id
 | _=>false
def A93 (t tt:Ty) (xs:List tt.D):Option (List (List t.D)):=if h:tt=.sl t then some (show List (Ty.sl t).D from h ▸ xs) else none
def Axg (s:St) (nid:Nat):Fx→Option (St×Nat)
 | .sl slot i t=>match s.cell slot with
  | .vl v=>if Atl v.ls i then some (s.setCell slot (.vl (Atk v i (.sl t []))),nid) else some (s.frz (v.ls[i]?).toList,nid)
  | _=>some (s,nid)
 | .row slot i e t=>match s.cell slot with
  | .vl v=>if Atl v.ls i then (match s.res nid with
   | .unborn=>some ((s.setRes nid (.row e t [])).setCell slot (.vl (Atk v i (.row nid))),nid + 1)
   | _=>none) else some (s,nid)
  | _=>some (s,nid)
 | .boxSl slot i t=>match s.cell slot with
  | .vl (.lf (.ptr id 0))=>match s.res id with
   | .box T ls=>if Atl ls i then some (s.setRes id (.box T (ls.set i (.sl t []))),nid) else some (s.frz (ls[i]?).toList,nid)
   | _=>some (s,nid)
  | _=>some (s,nid)
 | .boxRow slot i e t=>match s.cell slot with
  | .vl (.lf (.ptr id 0))=>match s.res id with
   | .box T ls=>if Atl ls i then (match s.res nid with
    | .unborn=>some ((s.setRes nid (.row e t [])).setRes id (.box T (ls.set i (.row nid))),nid + 1)
    | _=>none) else some (s,nid)
   | _=>some (s,nid)
  | _=>some (s,nid)
 | .self slot i=>match s.cell slot with
  | .vl (.lf (.ptr id 0))=>match s.res id with
   | .box T ls=>if A46 id ls i then some (s.setRes id (.box T (ls.set i (.sp id))),nid) else some (s,nid)
   | _=>some (s,nid)
  | _=>some (s,nid)
 | .last slot e1 t=>match s.cell slot with
  | .vl (.lf (.row id))=>match s.res id with
   | .row e tt xs=>match A93 t tt xs,s.res nid,s.res (nid + 1) with
    | some ys,.unborn,.unborn=>some (((Fk (s.setRes (nid + 1) (.row e1 t [])) (some id)).setRes nid (.last e t ys false (nid + 1))).setCell slot (.vl (.lf (.row nid))),nid + 2)
    | _,_,_=>none
   | _=>some (s,nid)
  | _=>some (s,nid)
def A1i (s:St) (nid:Nat):List Fx→Option (St×Nat)
 | []=>some (s,nid)
 | f::r=>(Axg s nid f).bind fun p=>A1i p.1 p.2 r
def Anx:List (Nat×Pv)→List Nat
 | []=>[]
 | p::r=>p.1::Anx r
def A47 (np:Nat) (live:List Nat) (s:St):Option (List (Nat×AV)×List Qs):=
 let us:=Anv s np live
 if S1 us&&Acb 0 np us then some (Au9 s us live,Arz s us us) else none
def Dv.mtch (np:Nat) (p:Dv) (s:St) (nid:Nat):Option p.D:=
 (A1i s nid p.fx).bind fun q=>(A47 np (Anx p.cs) q.1).bind fun l=>Axf (A1f (some ()) p.rs l.2) p.cs l.1
section
variable {P:Program} {n B:Nat} {Iq:List Nat} {s:St} {g:Gh} {a:Act} {w:World}
theorem Acd {ls:List Lf} {i:Nat} (h:Atl ls i=true):ls[i]? = some (.c (.slice none 0 0)):=by
 unfold Atl at h
 split at h
 ·rename_i l hl
  unfold A1h at h
  split at h
  ·exact hl
  ·cases h
 ·cases h
theorem A1j {s':St} {g':Gh} {v:Vl} {i:Nat} {l:Lf} {u:Value} (hv:VlR s' g' w v u) (hn:v.ls[i]? = some (.c (.slice none 0 0))) (hl:Dr s' g' w l (.slice none 0 0)):VlR s' g' w (Atk v i l) u:=by
 cases v with
 | lf l0=>
  unfold Atk
  simp only
  split
  ·rename_i hi
   subst hi
   simp [Vl.ls] at hn
   subst hn
   obtain ⟨h1,h2⟩:=hv
   have h1':u=.slice none 0 0:=h1
   subst h1'
   exact ⟨hl,rfl⟩
  ·exact hv
 | ag ls=>
  obtain ⟨cs,e1,e2⟩:=hv
  obtain ⟨v0,q1,q2,q3⟩:=e2.get hn
  have q2':v0=.slice none 0 0:=q2
  subst q2'
  refine ⟨cs,e1,?_⟩
  have hset:cs.toList.set i (.slice none 0 0)=cs.toList:=by
   apply List.ext_getElem?
   intro j
   by_cases q:i=j
   ·subst q
    rw [List.getElem?_set_self (List.getElem?_eq_some_iff.1 q1).1,q1]
   ·rw [List.getElem?_set_ne q]
  have:=e2.set (j:=i) (v:=.slice none 0 0) hl rfl
  rw [hset] at this
  exact this
theorem Atm (s:St) (g:Gh) (w:World) (t:Ty):Dr s g w (.sl t []) (.slice none 0 0):=⟨none,0,rfl,Nat.le_refl _,fun i x hx=>by simp [nth] at hx⟩
theorem Apd (h:B8 n B Iq s g a w) {slot:Nat} {av:AV} (hv:Ww s g w av (a.tmps.getD slot undef)):B8 n B Iq (s.setCell slot av) g a w∧Go B Iq s g w (s.setCell slot av) g w:=by
 have hS:∀ b,Ev s g b→b < w.heap.size→Ev (s.setCell slot av) g b∧w.heap[b]? = w.heap[b]? := fun b hb _=>⟨hb,rfl⟩
 have hI:∀ id,A0 s g (s.setCell slot av) g id:=fun id=>A0.same rfl rfl rfl
 refine ⟨h.step h.size h.defers (Nat.le_refl _) hS hI (fun i=>?_) (fun id=>.inl ⟨rfl,rfl,rfl,fun _ _=>rfl⟩) h.inj h.lt rfl,⟨Kp.refl B Iq w,hS,hI,rfl⟩⟩
 by_cases q:i=slot
 ·subst q
  right
  have:(s.setCell i av).cell i=av:=by simp [St.setCell]
  rw [this]
  exact Ww.step hS hI hv
 ·exact .inl ⟨by simp [St.setCell,Ay _ _ q],rfl⟩
theorem Aen (h:B8 n B Iq s g a w) {nid:Nat} (hf:s.res nid=.unborn) (e:TypeId) (t:Ty):
  ∃ g',Go B Iq s g w (s.setRes nid (.row e t [])) g' w∧B8 n B Iq (s.setRes nid (.row e t [])) g' a w∧Dr (s.setRes nid (.row e t [])) g' w (.row nid) (.slice none 0 0):=by
 have hS:∀ b,Ev s g b→b < w.heap.size→Ev (s.setRes nid (.row e t [])) ⟨Vc g.blk nid none,Vc g.hdr nid (.slice none 0 0),g.av⟩ b∧w.heap[b]? = w.heap[b]? := by
  intro b hb _
  refine ⟨⟨hb.1,fun j hj hk=>?_⟩,rfl⟩
  by_cases q:j=nid
  ·subst q; simp at hk
  ·rw [Ar s _ q] at hj
   simp only [Ay _ _ q] at hk
   exact hb.2 j hj hk
 have hI:∀ j,A0 s g (s.setRes nid (.row e t [])) ⟨Vc g.blk nid none,Vc g.hdr nid (.slice none 0 0),g.av⟩ j:=by
  intro j
  by_cases q:j=nid
  ·subst q
   unfold A0
   rw [hf]
   exact .inr trivial
  ·exact A0.same (Ar s _ q) (by simp [Ay _ _ q]) (by simp [Ay _ _ q])
 refine ⟨_,⟨Kp.refl B Iq w,hS,hI,rfl⟩,h.step h.size h.defers (Nat.le_refl _) hS hI (fun i=>.inl ⟨rfl,rfl⟩) (fun j=>?_) (fun i j b hi hj=>?_) (fun i b hi=>?_) rfl,?_⟩
 ·by_cases q:j=nid
  ·subst q
   right
   rw [Aq]
   refine ⟨[],⟨by simp,.inl ⟨by simp,rfl⟩⟩,Aoi _ _,by simp [Value.ownBlock]⟩
  ·left
   exact ⟨Ar s _ q,by simp [Ay _ _ q],by simp [Ay _ _ q],fun _ _=>rfl⟩
 ·by_cases q1:i=nid
  ·simp [q1] at hi
  ·by_cases q2:j=nid
   ·simp [q2] at hj
   ·simp only [Ay _ _ q1] at hi
    simp only [Ay _ _ q2] at hj
    exact h.inj i j b hi hj
 ·by_cases q1:i=nid
  ·simp [q1] at hi
  ·simp only [Ay _ _ q1] at hi
   exact h.lt i b hi
 ·simp only [Dr,Aq,A3]
theorem u7 (h:B8 n B Iq s g a w) {id:Nat} {T:TypeId} {ls:List Lf} {i:Nat} {l0 l:Lf} (hr:s.res id=.box T ls) (hn:ls[i]? = some l0) (hl:∀ u,Dr s g w l0 u→Dr s g w l u):
  B8 n B Iq (s.setRes id (.box T (ls.set i l))) g a w∧Go B Iq s g w (s.setRes id (.box T (ls.set i l))) g w:=by
 have hS:∀ b,Ev s g b→b < w.heap.size→Ev (s.setRes id (.box T (ls.set i l))) g b∧w.heap[b]? = w.heap[b]? := by
  intro b hb _
  refine ⟨⟨hb.1,fun j hj hk=>?_⟩,rfl⟩
  by_cases q:j=id
  ·subst q
   exact hb.2 j (by rw [hr]; rfl) hk
  ·rw [Ar s _ q] at hj
   exact hb.2 j hj hk
 have hI:∀ j,A0 s g (s.setRes id (.box T (ls.set i l))) g j:=by
  intro j
  by_cases q:j=id
  ·subst q
   unfold A0
   rw [hr,Aq]
   exact .inr ⟨_,_,rfl,rfl⟩
  ·exact A0.same (Ar s _ q) rfl rfl
 refine ⟨h.step h.size h.defers (Nat.le_refl _) hS hI (fun i=>.inl ⟨rfl,rfl⟩) (fun j=>?_) h.inj h.lt rfl,⟨Kp.refl B Iq w,hS,hI,rfl⟩⟩
 by_cases q:j=id
 ·subst q
  right
  rw [Aq]
  have r:=h.res j
  rw [hr] at r
  obtain ⟨b,cs,h1,h2,h3⟩:=r
  refine ⟨b,cs,h1,h2,Hj.step hS hI ?_⟩
  obtain ⟨v0,q1,q2,q3⟩:=h3.get hn
  have hset:cs.toList.set i v0=cs.toList:=by
   apply List.ext_getElem?
   intro k
   by_cases q:i=k
   ·subst q
    rw [List.getElem?_set_self (List.getElem?_eq_some_iff.1 q1).1,q1]
   ·rw [List.getElem?_set_ne q]
  have:=h3.set (j:=i) (v:=v0) (hl v0 q2) q3
  rw [hset] at this
  exact this
 ·exact .inl ⟨Ar s _ q,rfl,rfl,fun _ _=>rfl⟩
theorem Ape (h:B8 n B Iq s g a w) {id:Nat} {T:TypeId} {ls:List Lf} {i:Nat} {l:Lf} (hr:s.res id=.box T ls) (hn:ls[i]? = some (.c (.slice none 0 0))) (hl:Dr s g w l (.slice none 0 0)):
  B8 n B Iq (s.setRes id (.box T (ls.set i l))) g a w∧Go B Iq s g w (s.setRes id (.box T (ls.set i l))) g w:=
 u7 h hr hn fun u hu=>by
  have hu:u=.slice none 0 0:=hu
  subst hu
  exact hl
theorem A68 (h:B8 n B Iq s g a w) {nid:Nat} {f:Fx} {s':St} {nid':Nat} (e:Axg s nid f=some (s',nid')):∃ g',B8 n B Iq s' g' a w∧Go B Iq s g w s' g' w:=by
 have fz:∀ ls,some (s.frz ls,nid)=some (s',nid')→∃ g',B8 n B Iq s' g' a w∧Go B Iq s g w s' g' w:=fun ls q=>by
  cases q
  obtain ⟨g',k1,k2,_⟩:=Fj (ls:=ls) h
  exact ⟨g',k1,k2⟩
 have stay:some (s,nid)=some (s',nid')→∃ g',B8 n B Iq s' g' a w∧Go B Iq s g w s' g' w:=fun q=>by cases q; exact ⟨g,h,Go.refl B Iq s g w⟩
 cases f with
 | sl slot i t=>
  simp only [Axg] at e
  split at e
  ·rename_i v hv
   split at e
   ·rename_i hn
    cases e
    have k:=h.cell slot
    rw [hv] at k
    exact ⟨g,Apd h (av:=.vl (Atk v i (.sl t []))) (A1j (w:=w) k (Acd hn) (Atm s g w t))⟩
   ·exact fz _ e
  ·exact stay e
 | row slot i e0 t=>
  simp only [Axg] at e
  split at e
  ·rename_i v hv
   split at e
   ·rename_i hn
    split at e
    ·rename_i hf
     cases e
     obtain ⟨g',k1,k2,k3⟩:=Aen h hf e0 t
     have k:=k2.cell slot
     have hc:(s.setRes nid (.row e0 t [])).cell slot=.vl v:=hv
     rw [hc] at k
     obtain ⟨r1,r2⟩:=Apd k2 (av:=.vl (Atk v i (.row nid))) (A1j (w:=w) k (Acd hn) k3)
     exact ⟨g',r1,k1.trans r2⟩
    ·cases e
   ·exact stay e
  ·exact stay e
 | boxSl slot i t=>
  simp only [Axg] at e
  split at e
  ·rename_i id hv
   split at e
   ·rename_i T ls hr
    split at e
    ·rename_i hn
     cases e
     exact ⟨g,Ape h hr (Acd hn) (Atm s g w t)⟩
    ·exact fz _ e
   ·exact stay e
  ·exact stay e
 | boxRow slot i e0 t=>
  simp only [Axg] at e
  split at e
  ·rename_i id hv
   split at e
   ·rename_i T ls hr
    split at e
    ·rename_i hn
     split at e
     ·rename_i hf
      cases e
      obtain ⟨g',k1,k2,k3⟩:=Aen h hf e0 t
      have hne:id≠nid:=by rintro rfl; rw [hf] at hr; cases hr
      have hr':(s.setRes nid (.row e0 t [])).res id=.box T ls:=by rw [Ar s _ hne]; exact hr
      obtain ⟨r1,r2⟩:=Ape k2 hr' (Acd hn) k3
      exact ⟨g',r1,k1.trans r2⟩
     ·cases e
    ·exact stay e
   ·exact stay e
  ·exact stay e
 | self slot i=>
  simp only [Axg] at e
  split at e
  ·rename_i id hv
   split at e
   ·rename_i T ls hr
    split at e
    ·rename_i hn
     cases e
     unfold A46 at hn
     split at hn
     ·rename_i hg
      refine ⟨g,u7 h hr hg fun u hu=>?_⟩
      simp only [Dr] at hu ⊢
      rw [hr]
      exact .inl hu
     ·rename_i j hg
      have hj:=Nat.eq_of_beq_eq_true hn
      subst hj
      refine ⟨g,u7 h hr hg fun u hu=>?_⟩
      simp only [Dr] at hu ⊢
      rw [hr] at hu ⊢
      exact .inr hu
     ·cases hn
    ·exact stay e
   ·exact stay e
  ·exact stay e
 | last slot e1 t=>
  simp only [Axg] at e
  split at e
  ·rename_i id hv
   split at e
   ·rename_i e0 tt xs hr
    split at e
    ·rename_i ys _ _ hys hf hf1
     cases e
     unfold A93 at hys
     split at hys<;>cases hys
     rename_i htt
     subst htt
     obtain ⟨g1,k1,k2,k3⟩:=Aen h hf1 e1 t
     have hid1:id≠nid + 1:=fun q=>by rw [q,hf1] at hr; cases hr
     have hid0:id≠nid:=fun q=>by rw [q,hf] at hr; cases hr
     have hr1:(s.setRes (nid + 1) (.row e1 t [])).res id=.row e0 (.sl t) xs:=(Ar s _ hid1).trans hr
     have hf0:(s.setRes (nid + 1) (.row e1 t [])).res nid=.unborn:=(Ar s _ (by omega)).trans hf
     have r:=k2.res id
     rw [hr1] at r
     obtain ⟨cs,q1,q2,q3⟩:=r
     have hc:=k2.cell slot
     have hv1:(s.setRes (nid + 1) (.row e1 t [])).cell slot=.vl (.lf (.row id)):=hv
     rw [hv1] at hc
     obtain ⟨hc1,hc2⟩:=hc
     simp only [Dr,hr1] at hc1
     have hcl:cs.length=List.length xs:=by simpa [Ty.sz] using q1.1
     obtain ⟨m1,m2,m3,m4⟩:=k2.growR (o:=some id) hf0 (v:=g1.hdr id) (v':=g1.hdr id) (w':=w) (r:=.last e0 t xs false (nid + 1)) (fun j q=>by
      cases q
      exact ⟨by rw [hr1]; rfl,rfl,q3⟩) (fun q=>by cases q) (World.grownBy.refl w _) (.inl rfl) (fun b hb=>(k2.lt id b (q3.trans hb)).1) (fun hS _=>by
      refine ⟨cs,?_,?_,?_,fun u hq=>by cases hq⟩
      ·have e1:(g1.mv (some id) nid (g1.hdr id)).hdr nid=g1.hdr id:=by simp [Gh.mv]
       rw [e1]
       exact q1
      ·have e2:cs.take (@List.length (List t.D) xs)=cs:=List.take_of_length_le (Nat.le_of_eq hcl)
       have e3:=q2.keep hS
       rw [← e2] at e3
       exact e3
      ·simp [Gh.mv])
     have hcell:Ww ((Fk (s.setRes (nid + 1) (.row e1 t [])) (some id)).setRes nid (.last e0 t xs false (nid + 1))) (g1.mv (some id) nid (g1.hdr id)) w (.vl (.lf (.row nid))) (a.tmps.getD slot undef):=by
      refine ⟨?_,hc2⟩
      simp only [Dr,Aq]
      rw [hc1]
      simp [Gh.mv]
     obtain ⟨c1,c2⟩:=Apd m3 (slot:=slot) hcell
     exact ⟨_,c1,k1.trans (Go.trans ⟨m4,m1,m2,rfl⟩ c2)⟩
    ·cases e
   ·exact stay e
  ·exact stay e
theorem Axh:∀ {fx:List Fx} {s:St} {g:Gh} {nid:Nat} {s':St} {nid':Nat},B8 n B Iq s g a w→A1i s nid fx=some (s',nid')→∃ g',B8 n B Iq s' g' a w∧Go B Iq s g w s' g' w
 | [],s,g,nid,s',nid',h,e=>by cases e; exact ⟨g,h,Go.refl B Iq s g w⟩
 | f::r,s,g,nid,s',nid',h,e=>by
  simp only [A1i] at e
  obtain ⟨p,e1,e2⟩:=A7 e
  obtain ⟨g1,k1,k2⟩:=A68 h (s':=p.1) (nid':=p.2) e1
  obtain ⟨g2,k3,k4⟩:=Axh k1 e2
  exact ⟨g2,k3,k2.trans k4⟩
theorem A69 (h:B8 n B Iq s g a w) {np nid:Nat} {p:Dv} {d:p.D} (e:p.mtch np s nid=some d):
  ∃ s1 g1 g',Go B Iq s g w s1 g1 w∧B8 n B Iq (p.st d) g' a w∧g'.av=g1.av∧∀ id,id < np→((p.st d).res id=.unborn→s1.res id=.unborn)∧(∀ T ls,(p.st d).res id=.box T ls→(∃ T' ls',s1.res id=.box T' ls')∧g'.blk id=g1.blk id)∧(∀ e,∀ t:Ty,∀ xs:List t.D,(p.st d).res id=.row e t xs→(∃ e',∃ xs':List t.D,s1.res id=.row e' t xs')∧g'.blk id=g1.blk id∧g'.hdr id=g1.hdr id):=by
 unfold Dv.mtch at e
 obtain ⟨q,e1,e⟩:=A7 e
 obtain ⟨l,e2,e⟩:=A7 e
 obtain ⟨y,e3,e4⟩:=Ati e
 obtain ⟨z,e5,e6⟩:=Atj e3
 obtain ⟨g1,k1,k2⟩:=Axh h (s':=q.1) (nid':=q.2) e1
 have hst:p.st d=Axd l.1 l.2:=by
  unfold Dv.st
  have e4':Vn p.cs (X:=RsD p.rs Unit) d=(l.1,y):=e4
  have a2:(Vn p.cs (X:=RsD p.rs Unit) d).2=y:=congrArg Prod.snd e4'
  have a3:Z9 p.rs (Vn p.cs (X:=RsD p.rs Unit) d).2=(l.2,z):=(congrArg (Z9 p.rs) a2).trans e6
  exact congr (congrArg Axd (congrArg Prod.fst e4')) (congrArg Prod.fst a3)
 have hc:canon np (Anx p.cs) q.1=some (Axd l.1 l.2,(Anv q.1 np (Anx p.cs)).length):=by
  unfold A47 at e2
  unfold canon
  dsimp only at e2 ⊢
  split at e2
  ·rename_i hq
   rw [if_pos hq]
   cases e2
   rfl
  ·cases e2
 obtain ⟨g',r1,r2,r3⟩:=A41 k1 hc
 rw [hst]
 exact ⟨q.1,g1,g',k2,r1,r2,r3⟩
end
end
section
theorem Axi (p:prD):∀ l:List prD,(Aou p l).length=l.length + 1
 | []=>rfl
 | q::r=>by
  simp only [Aou]
  cases ltK q p with
  | true=>simp only [cond_true,List.length_cons,Axi p r]
  | false=>rfl
theorem Ace:∀ l:List prD,(Xj l).length=l.length
 | []=>rfl
 | p::r=>by show (Aou p (Xj r)).length=r.length + 1; rw [Axi,Ace r]
structure Atn where
 pre:List Oper
 o2:Oper
 o3:Oper
 o4:Oper
 V:TypeId
 z:Operand
 d2:Nat
 d3:Nat
 fs:FuncId
def Anz (o2 o3 o4:Oper):Option (TypeId×Operand×Nat×Nat×FuncId):=match o2.op,o2.dst,o2.guard,o3.dst,o3.guard,N7 o4,o4.guard with
 | .makeInterface V z,some d2,none,some d3,none,some (fs,[.tmp p,.tmp q]),none=>if p=d2 then (if q=d3 then (if d2=d3 then none else some (V,z,d2,d3,fs)) else none) else none
 | _,_,_,_,_,_,_=>none
def Sv:List Oper→Option Atn
 | [o0,o1,o2,o3,o4]=>match Anz o2 o3 o4 with
  | some (V,z,d2,d3,fs)=>some ⟨[o0,o1],o2,o3,o4,V,z,d2,d3,fs⟩
  | none=>none
 | _=>none
def A48:AV→Option (FuncId×Nat)
 | .fn fc [.ptr b 0]=>some (fc,b)
 | _=>none
def Apf (BT:TypeId):Qs→Option Nat
 | .box T [.row r]=>if T=BT then some r else none
 | _=>none
def Avd:Option Lf→Option Nat
 | some (.row r)=>some r
 | _=>none
def A8h (P:Program) (T:Tb) (n:Nat) (s:St) (nid:Nat) (q:Atn):Option (List Bool×St):=match T.srt with
 | some (fs,fc,BT,U,e)=>match Avd (s.leaf q.z) with
  | some r=>match S5 P T (s.put n q.o2.dst .dead) nid q.o3 with
   | some (av,s3)=>match A48 av with
    | some (fc',b)=>match Apf BT (s3.res b),Axe e prT (s3.res r) with
     | some r',some xs=>if As5 P q.V=true then (if fs=q.fs then (if fc'=fc then (if q.V=U then (if r'=r then (if q.d2 < n then (if q.d3 < n then some ([Jb xs,decide (xs.length≤1000)],((s3.put n q.o3.dst av).setRes r (.row e prT (Xj xs))).put n q.o4.dst (.tp [])) else none) else none) else none) else none) else none) else none) else none
     | _,_=>none
    | none=>none
   | none=>none
  | none=>none
 | none=>none
theorem Azt {e:TypeId} {t:Ty} {v:Qs} {xs:List t.D} (h:Axe e t v=some xs):v=.row e t xs:=by
 unfold Axe at h
 split at h
 ·split at h
  ·rename_i he
   split at h
   ·rename_i ht
    cases h
    subst he ht
    rfl
   ·cases h
  ·cases h
 ·cases h
section
variable {P:Program} {n B:Nat} {Iq:List Nat} {s:St} {g:Gh} {a:Act} {w:World}
theorem Ave {o2 o3 o4:Oper} {V:TypeId} {z:Operand} {d2 d3:Nat} {fs:FuncId} (h:Anz o2 o3 o4=some (V,z,d2,d3,fs)):
  o2.op=.makeInterface V z∧o2.dst=some d2∧o2.guard=none∧o3.dst=some d3∧o3.guard=none∧N7 o4=some (fs,[.tmp d2,.tmp d3])∧o4.guard=none∧d2≠d3:=by
 unfold Anz at h
 split at h
 ·rename_i h1 h2 h3 h4 h5 h6 h7
  split at h
  ·rename_i e1
   split at h
   ·rename_i e2
    split at h
    ·cases h
    ·rename_i e3
     cases h
     subst e1 e2
     exact ⟨h1,h2,h3,h4,h5,h6,h7,e3⟩
   ·cases h
  ·cases h
 ·cases h
theorem A1k {a:Act} {d:Nat} {v:Value} (h:d < a.tmps.size):(a.put (some d) v).tmps.getD d undef=v:=by
 simp [Act.put,Array.getD_eq_getD_getElem?,h]
theorem Azu {a:Act} {d i:Nat} {v:Value} (h:i≠d):(a.put (some d) v).tmps.getD i undef=a.tmps.getD i undef:=by
 simp [Act.put,Array.getD_eq_getD_getElem?,Array.getElem?_setIfInBounds,h.symm]
theorem A22 (h:B8 n B Iq s g a w) {fs fc:FuncId} {BT U e:TypeId} (hok:A4k P fs fc BT U e) {b r:Nat} {xs:List prD} {bb:Nat} (hb:g.blk b=some bb) (hbox:s.res b=.box BT [.row r]) (hrow:s.res r=.row e prT xs)
  (hnd:Jb xs=true) (hlen:xs.length≤1000):Aca P fs #[.iface U (g.hdr r),.func (.func fc) #[] #[.pointer (some ⟨bb,0,none⟩)]] n B Iq s g a w (.tp []) (s.setRes r (.row e prT (Xj xs))):=by
 have kb:=h.res b
 rw [hbox] at kb
 obtain ⟨bb',ccs,hb',hh,hL⟩:=kb
 obtain rfl:bb=bb':=Option.some.inj (hb.symm.trans hb')
 have kr:=h.res r
 rw [hrow] at kr
 obtain ⟨cs,o1,o2,o3⟩:=kr
 obtain ⟨v0,hcs⟩:∃ v0,ccs=#[v0]:=by
  have:=hL.length
  match ccs,this with
  | ⟨[x]⟩,_=>exact ⟨x,rfl⟩
 subst hcs
 have hv0:v0=g.hdr r:=by
  have:=hL.1.1
  simp only [Dr,hrow] at this
  exact this
 subst hv0
 have hbr:b≠r:=fun q=>by rw [q,hrow] at hbox; cases hbox
 have hne:(g.hdr r).ownBlock≠some bb:=by
  rw [← o3]
  intro q
  exact hbr (h.inj b r bb hb q)
 have hlive:(s.res r).live=true:=by rw [hrow]; rfl
 refine Calls.mono (hok w bb (g.hdr r) xs cs hnd hlen (h.lt b bb hb).1 hh o1 (o2.imp fun _ _ _=>trivial) hne) fun en w'=>?_
 rintro ⟨rfl,hk,cs',p1,p2⟩
 have hmem:∀ c,c∈(g.hdr r).ownBlock.toList→g.blk r=some c:=fun c hc=>by
  simp only [Option.mem_toList] at hc
  rw [o3]; exact hc
 have hS:∀ c,Ev s g c→c < w.heap.size→Ev (s.setRes r (.row e prT (Xj xs))) g c∧w'.heap[c]? = w.heap[c]? := by
  intro c hc hc'
  refine ⟨⟨hc.1,fun j hj=>?_⟩,hk.block c hc' (fun q=>hc.2 r hlive (hmem c q))⟩
  by_cases q:j=r
  ·rw [q]; exact hc.2 r hlive
  ·rw [Ar s _ q] at hj; exact hc.2 j hj
 have hI:∀ j,A0 s g (s.setRes r (.row e prT (Xj xs))) g j:=by
  intro j
  by_cases q:j=r
  ·subst q
   unfold A0
   rw [hrow]
   exact .inr (.inl ⟨_,_,Aq _ _ _,Ace xs,rfl,rfl⟩)
  ·exact A0.same (Ar s _ q) rfl rfl
 refine ⟨.tuple #[],g,rfl,⟨hk.toKp h.base (fun c hc=>(h.lt r c (hmem c hc)).2.1),hS,hI,rfl⟩,?_,⟨#[],rfl,rfl,fun j v hv=>by simp at hv⟩⟩
 refine h.step h.size h.defers hk.size hS hI (fun i=>.inl ⟨rfl,rfl⟩) (fun j=>?_) h.inj (fun i c hi=>⟨Nat.lt_of_lt_of_le (h.lt i c hi).1 hk.size,(h.lt i c hi).2⟩) rfl
 by_cases q:j=r
 ·subst q
  right
  rw [Aq]
  exact ⟨cs',(show w'.ownsRow 0 e 2 (g.hdr j) (List.length (α:=prD) (Xj xs)) cs' by rw [Ace]; exact p1),p2 _,o3⟩
 ·exact .inl ⟨Ar s _ q,rfl,rfl,fun c hc=>hk.block c (h.lt j c hc).1 (fun q2=>q (h.inj j r c hc (hmem c q2)))⟩
end
end
end Go.Proofs.Ytfkefgbihlfjmaa.R
end
