/- Calls that are entered in place, function values, and the two library functions that a builder needs. No condition. -/
import Derived.Test.YtfkefgbihlfjmaaRTy
noncomputable section
set_option linter.unusedVariables false
set_option linter.unusedSimpArgs false
namespace Go.Proofs.Ytfkefgbihlfjmaa.R
open Go Go.RowKit
section
def Of (o:Oper):Option (FuncId×List Operand):=match o.op with
 | .call c=>match c.callee with
  | .value (.func f)=>some (f,c.args.toList)
  | _=>none
 | _=>none
def Af9 (s:St) (o:Oper):Option (FuncId×List Operand×List Lf):=match o.op with
 | .call c=>match c.callee with
  | .value (.tmp t)=>match s.cell t with
   | .fn f ls=>some (f,c.args.toList,ls)
   | _=>none
  | _=>none
 | _=>none
def Vn (s:St):List Operand→Option (List Vl)
 | []=>some []
 | x::r=>(s.value x).bind fun v=>(Vn s r).bind fun vs=>some (v::vs)
def A5u:List Lf→List Vl
 | []=>[]
 | l::r=>.lf l::A5u r
structure Tb where
 sd:FuncId→Option SD
 inl:FuncId→Option Func
 cc:Option (FuncId×TypeId)
 st:Option (FuncId×TypeId×TypeId)
 srt:Option (FuncId×FuncId×TypeId×TypeId×TypeId)
def Tb.of (sd:FuncId→Option SD):Tb:=⟨sd,fun _=>none,none,none,none⟩
def F4 (xs:List Int):Bool:=xs.all fun x=>decide (0≤x)&&decide (x < 256)
def A9n (P:Program) (T:TypeId) (f:FuncId):Prop:=∀ (w:World) (b:Nat) (v:Value),
 (w.heap[b]? = some (.cells #[.pointer none,v] T (0,0))→Calls P f #[.pointer (some ⟨b,0,none⟩)] w fun e w'=>e=.returned (.tuple #[])∧Ob [b] w w'∧w'.heap[b]? = some (.cells #[.pointer (some ⟨b,0,none⟩),v] T (0,0)))∧
 (w.heap[b]? = some (.cells #[.pointer (some ⟨b,0,none⟩),v] T (0,0))→Calls P f #[.pointer (some ⟨b,0,none⟩)] w fun e w'=>e=.returned (.tuple #[])∧Ob [] w w')
def A9o (P:Program) (T e:TypeId) (f:FuncId):Prop:=∀ (w:World) (b:Nat) (p v:Value) (xs:List Int) (cs:List Value),
 F4 xs=true→w.heap[b]? = some (.cells #[p,v] T (0,0))→w.ownsRow 0 e 1 v xs.length cs→Iv w (fun _=>True) (.int .u8) xs cs→v.ownBlock≠some b→
  Calls P f #[.pointer (some ⟨b,0,none⟩)] w fun e w'=>e=.returned (.string (strOfNums xs))∧Ob v.ownBlock.toList w w'
abbrev prT:Ty:=.pair .str (.pair .str .unit)
abbrev prD:=Ab×Ab×Unit
def ltK (a b:prD):Bool:=Op.bytesLess a.1.toList b.1.toList
def An4 (p:prD):List prD→List prD
 | []=>[p]
 | q::r=>bif ltK q p then q::An4 p r else p::q::r
def Xl (l:List prD):List prD:=l.foldr An4 []
def Jk:List prD→Bool
 | []=>true
 | p::r=>!(r.any fun q=>q.1.toList==p.1.toList)&&Jk r
def A3f (P:Program) (fs fc:FuncId) (BT U e:TypeId):Prop:=∀ (w:World) (b:Nat) (v:Value) (xs:List prD) (cs:List Value),
 Jk xs=true→xs.length≤1000→b < w.heap.size→w.heap[b]? = some (.cells #[v] BT (0,0))→w.ownsRow 0 e 2 v xs.length cs→Iv w (fun _=>True) prT xs cs→v.ownBlock≠some b→
  Calls P fs #[.iface U v,.func (.func fc) #[] #[.pointer (some ⟨b,0,none⟩)]] w fun en w'=>en=.returned (.tuple #[])∧Ob v.ownBlock.toList w w'∧∃ cs',w'.ownsRow 0 e 2 v xs.length cs'∧∀ S,Iv w' S prT (Xl xs) cs'
structure A1 (P:Program) (T:Tb):Prop where
 sd:∀ f sd,T.sd f=some sd→Lq P f∧Akl P f sd.sg sd.den
 inl : ∀ f fn, T.inl f = some fn → P.funcs[f]? = some fn ∧ (fn.name == "runtime.NumGoroutine") = false ∧ fn.body.isNone = false
 cc:∀ f BT,T.cc=some (f,BT)→Lq P f∧A9n P BT f
 st:∀ f BT e,T.st=some (f,BT,e)→Lq P f∧A9o P BT e f
 srt:∀ fs fc BT U e,T.srt=some (fs,fc,BT,U,e)→Lq P fs∧A3f P fs fc BT U e
theorem A1.of {P:Program} {sd:FuncId→Option SD} (h:∀ f d,sd f=some d→Lq P f∧Akl P f d.sg d.den):A1 P (Tb.of sd):=
 ⟨h,fun _ _ q=>(by cases q),fun _ _ q=>(by cases q),fun _ _ _ q=>(by cases q),fun _ _ _ _ _ q=>(by cases q)⟩
def A70 (T:Tb) (f:FuncId) (BT:TypeId):Bool:=match T.cc with
 | some (f',B')=>Nat.beq f' f&&Nat.beq B' BT
 | none=>false
def A8x (T:Tb) (f:FuncId) (BT:TypeId):Option TypeId:=match T.st with
 | some (f',B',e)=>bif Nat.beq f' f&&Nat.beq B' BT then some e else none
 | none=>none
def ccD (s:St) (id:Nat) (BT:TypeId) (l0 l1:Lf):Cd:=match l0 with
 | .c (.pointer none)=>some ([],.tp [],s.setRes id (.box BT [.ptr id 0,l1]))
 | .ptr j 0=>if j=id then some ([],.tp [],s) else none
 | .sp j=>if j=id then some ([],.tp [],s.setRes id (.box BT [.ptr id 0,l1])) else none
 | _=>none
def A3g (T:Tb) (s:St) (f:FuncId) (vs:List Vl):Cd:=match vs with
 | [.lf (.ptr id 0)]=>match s.res id with
  | .box BT [l0,l1]=>bif A70 T f BT then ccD s id BT l0 l1 else (match A8x T f BT with
   | some e=>(Xe s ⟨e,.int .u8,[],0⟩ l1).bind fun p=>some ([F4 p.2],.vl (.lf (.c (.string (strOfNums p.2)))),Fo s p.1)
   | none=>none)
  | _=>none
 | _=>none
def Auh (s:St) (vs:List Vl):St:=⟨fun i=>match vs[i]? with | some v=>.vl v | none=>.dead,s.res⟩
def A3h (P:Program) (T:Tb) (s:St) (nid:Nat) (o:Oper):Cd:=match Of o with
 | some (f,xs)=>match Vn s xs with
  | some vs=>A3g T s f vs
  | none=>none
 | none=>Xk P s nid o
def St.put (n:Nat) (s:St) (d:Option Tmp) (av:AV):St:=match d with
 | some d=>if Nat.blt d n then s.setCell d av else s
 | none=>s
def A7c (s:St) (nid:Nat):Nat:=match s.res nid with
 | .unborn=>nid
 | _=>nid + 1
def A5v (P:Program) (T:Tb) (n:Nat):List Oper→Nat→St→Option (List Bool×St)
 | [],_,s=>some ([],s)
 | o::r,nid,s=>match o.guard with
  | some _=>none
  | none=>match A3h P T s nid o with
   | some (cs,av,s')=>match A5v P T n r (A7c s' nid) (s'.put n o.dst av) with
    | some (cs',s'')=>some (cs++cs',s'')
    | none=>none
   | none=>none
def Aq6 (P:Program) (T:Tb) (n:Nat):Code→Nat→St→Option (List Bool×Bool×St)
 | .skip,_,s=>some ([],false,s)
 | .region _ ops draw,nid,s=>bif draw then none else match A5v P T n ops.toList nid s with
  | some (cs,s')=>some (cs,false,s')
  | none=>none
 | .seq a b,nid,s=>match Aq6 P T n a nid s with
  | some (cs,true,s')=>some (cs,true,s')
  | some (cs,false,s')=>match Aq6 P T n b (A7c s' nid) s' with
   | some (cs',r,s'')=>some (cs++cs',r,s'')
   | none=>none
  | none=>none
 | .cond c a b,nid,s=>match s.conc c with
  | some (.bool true)=>Aq6 P T n a nid s
  | some (.bool false)=>Aq6 P T n b nid s
  | _=>none
 | .ret,_,s=>some ([],true,s)
 | _,_,_=>none
def Qq (P:Program) (s:St):List ResultVar→Option (List Vl)
 | []=>some []
 | .tmp t::r=>match s.cell t with
  | .vl v=>(Qq P s r).map (v::·)
  | _=>none
 | .cell a t::r=>match Ani P s t (.tmp a) with
  | some v=>(Qq P s r).map (v::·)
  | none=>none
def A5w (P:Program) (T:Tb) (fn:Func) (vs:List Vl) (s:St) (nid:Nat):Cd:=match fn.body with
 | none=>none
 | some c=>bif Nat.ble vs.length fn.ntmps then (match Aq6 P T fn.ntmps c nid (Auh s vs) with
  | some (cs,_,s')=>match Qq P s' fn.results.toList with
   | some vs'=>some (cs,Ayf vs',⟨s.cell,s'.res⟩)
   | none=>none
  | none=>none) else none
def S7 (P:Program) (T:Tb) (s:St) (nid:Nat) (o:Oper):Option (AV×St):=match Of o with
 | some (f,xs)=>match Vn s xs with
  | some vs=>match T.sd f with
   | some sd=>Aef sd.sg sd.den s nid vs
   | none=>match T.inl f with
    | some fn=>Nm (A5w P T fn vs s nid)
    | none=>Nm (A3g T s f vs)
  | none=>none
 | none=>match Af9 s o with
  | some (f,xs,ls)=>match Vn s xs with
   | some vs=>match T.sd f with
    | some sd=>Aef sd.sg sd.den s nid (vs++A5u ls)
    | none=>none
   | none=>none
  | none=>Nm (Xk P s nid o)
section
variable {P:Program} {n B:Nat} {Iq:List Nat} {s:St} {g:Gh} {a:Act} {w:World}
theorem Abs (h:B5 n B Iq s g a w):∀ {xs:List Operand} {vs:List Vl},Vn s xs=some vs→VLR s g w vs (xs.map a.eval)
 | [],vs,e=>by cases e; trivial
 | x::r,vs,e=>by
  simp only [Vn] at e
  obtain ⟨v,e1,e⟩:=A6 e
  obtain ⟨vs',e2,e⟩:=A6 e
  cases e
  exact ⟨Zc h e1,Abs h e2⟩
theorem Aga {f:FuncId} (hc:Lq P f) (args:Array Value):(callFunc f args).run P w=.ok (.enter f args) w:=by
 obtain ⟨fn,h1,h2,h3⟩:=hc
 simp only [callFunc,Sem.run_bind,run_program,Result.andThen_ok,h1,h2,h3,Bool.false_eq_true,if_false]
 rfl
def Abt (P:Program) (f:FuncId) (args:Array Value) (n B:Nat) (Iq:List Nat) (s:St) (g:Gh) (a:Act) (w:World) (av:AV) (s':St):Prop:=
 Calls P f args w fun e w'=>∃ v g',e=.returned v∧Go B Iq s g w s' g' w'∧B5 n B Iq s' g' a w'∧Wz s' g' w' av v
theorem Ob.toKp {B:Nat} {Iq l:List Nat} {w w':World} (h:Ob l w w') (hB:B≤w.heap.size) (hl:∀ b∈l,b∈Iq∨B≤b):Kp B Iq w w':=
 ⟨h.os,h.tape,h.output,h.size,fun k hk hn=>h.block k (by omega) fun q=>by
  rcases hl k q with q | q
  ·exact hn q
  ·omega⟩
theorem S8 (s:St) (o:Option Nat) (j:Nat):(Fo s o).res j=if o=some j then .dead else s.res j:=by
 cases o with
 | none=>simp [Fo]
 | some i=>
  simp only [Fo,St.setRes,Vf,Option.some.injEq]
  by_cases q:j=i
  ·rw [if_pos q,if_pos q.symm]
  ·rw [if_neg q,if_neg (fun e=>q e.symm)]
theorem Az1 {T:Tb} (hs:A1 P T) (h:B5 n B Iq s g a w) {f:FuncId} {vs:List Vl} {args:List Value} (hv:VLR s g w vs args) {cs:List Bool} {av:AV} {s':St} (e:A3g T s f vs=some (cs,av,s')) (hcs:Ra cs=true):
  Lq P f∧Abt P f args.toArray n B Iq s g a w av s':=by
 unfold A3g at e
 split at e
 ·rename_i id
  split at e
  ·rename_i BT l0 l1 hr
   match args,hv with
   | [u],hv=>
   have hl:=hv.1.1
   simp only [Dp,hr] at hl
   obtain ⟨b,hb,hu⟩:=hl
   subst hu
   have r:=h.res id
   rw [hr] at r
   obtain ⟨b',cs,hb',hh,hL⟩:=r
   obtain rfl:b=b':=Option.some.inj (hb.symm.trans hb')
   obtain ⟨v0,v1,hcs⟩:∃ v0 v1,cs=#[v0,v1]:=by
    have:=hL.length
    match cs,this with
    | ⟨[x,y]⟩,_=>exact ⟨x,y,rfl⟩
   subst hcs
   have hL0:=hL.1
   have hL1:=hL.2.1
   have hlive:(s.res id).live=true:=by rw [hr]; rfl
   have hlt:=h.lt id b hb
   cases hcc:A70 T f BT with
   | true=>
    rw [hcc] at e
    simp only [cond_true] at e
    have hT:T.cc=some (f,BT):=by
     unfold A70 at hcc
     split at hcc
     ·rename_i f' B' hq
      simp only [Bool.and_eq_true] at hcc
      rw [hq,Nat.eq_of_beq_eq_true hcc.1,Nat.eq_of_beq_eq_true hcc.2]
     ·cases hcc
    obtain ⟨hcal,hok⟩:=hs.cc f BT hT
    refine ⟨hcal,?_⟩
    have become:∀ {p0:Value},Calls P f #[.pointer (some ⟨b,0,none⟩)] w (fun e w'=>e=.returned (.tuple #[])∧Ob [b] w w'∧w'.heap[b]? = some (.cells #[.pointer (some ⟨b,0,none⟩),v1] BT (0,0)))→
      Abt P f #[.pointer (some ⟨b,0,none⟩)] n B Iq s g a w (.tp []) (s.setRes id (.box BT [.ptr id 0,l1])):=by
     intro p0 hcx
     refine Calls.mono hcx fun en w'=>?_
     rintro ⟨rfl,hk,hh'⟩
     have hS:∀ c,Ev s g c→c < w.heap.size→Ev (s.setRes id (.box BT [.ptr id 0,l1])) g c∧w'.heap[c]? = w.heap[c]? := by
      intro c hc hc'
      refine ⟨⟨hc.1,fun j hj=>?_⟩,hk.block c hc' (by simp only [List.mem_singleton]; rintro rfl; exact hc.2 id hlive hb)⟩
      by_cases q:j=id
      ·rw [q]; exact hc.2 id hlive
      ·rw [Ap s _ q] at hj; exact hc.2 j hj
     have hI:∀ j,Ay s g (s.setRes id (.box BT [.ptr id 0,l1])) g j:=by
      intro j
      by_cases q:j=id
      ·subst q
       unfold Ay
       rw [hr]
       exact .inr ⟨_,_,Ao _ _ _,rfl⟩
      ·exact Ay.same (Ap s _ q) rfl rfl
     refine ⟨.tuple #[],g,rfl,⟨hk.toKp h.base (fun c hc=>by simp only [List.mem_singleton] at hc; subst hc; exact hlt.2.1),hS,hI,rfl⟩,?_,⟨#[],rfl,rfl,fun j v hv=>by simp at hv⟩⟩
     refine h.step h.size h.defers hk.size hS hI (fun i=>.inl ⟨rfl,rfl⟩) (fun j=>?_) h.inj (fun i c hi=>⟨Nat.lt_of_lt_of_le (h.lt i c hi).1 hk.size,(h.lt i c hi).2⟩) rfl
     by_cases q:j=id
     ·subst q
      right
      rw [Ao]
      refine ⟨b,_,hb,hh',⟨?_,rfl⟩,⟨Dp.step hS hI hL1.1,hL1.2⟩,trivial⟩
      simp only [Dp,Ao]
      exact ⟨b,hb,rfl⟩
     ·exact .inl ⟨Ap s _ q,rfl,rfl,fun c hc=>hk.block c (h.lt j c hc).1 (by simp only [List.mem_singleton]; rintro rfl; exact q (h.inj j id c hc hb))⟩
    unfold ccD at e
    split at e
    ·cases e
     have h0:v0=.pointer none:=hL0.1
     subst h0
     exact become (p0:=undef) ((hok w b v1).1 hh)
    ·rename_i j
     split at e<;>cases e
     rename_i hj
     subst hj
     have h0:=hL0.1
     simp only [Dp,hr] at h0
     obtain ⟨b2,e1,e2⟩:=h0
     obtain rfl:b=b2:=Option.some.inj (hb.symm.trans e1)
     subst e2
     refine Calls.mono ((hok w b v1).2 hh) fun en w'=>?_
     rintro ⟨rfl,hk⟩
     have hS:∀ c,Ev s g c→c < w.heap.size→Ev s g c∧w'.heap[c]? = w.heap[c]? := fun c hc hc'=>⟨hc,hk.block c hc' (by simp)⟩
     have hI:∀ j,Ay s g s g j:=fun _=>Ay.same rfl rfl rfl
     refine ⟨.tuple #[],g,rfl,⟨hk.toKp h.base (fun c hc=>by simp at hc),hS,hI,rfl⟩,?_,⟨#[],rfl,rfl,fun j v hv=>by simp at hv⟩⟩
     exact h.step h.size h.defers hk.size hS hI (fun i=>.inl ⟨rfl,rfl⟩) (fun j=>.inl ⟨rfl,rfl,rfl,fun c hc=>hk.block c (h.lt j c hc).1 (by simp)⟩) h.inj (fun i c hi=>⟨Nat.lt_of_lt_of_le (h.lt i c hi).1 hk.size,(h.lt i c hi).2⟩) rfl
    ·rename_i j
     split at e<;>cases e
     rename_i hj
     subst hj
     have h0:=hL0.1
     simp only [Dp,hr] at h0
     rcases h0 with h0 | ⟨b2,e1,e2⟩
     ·subst h0
      exact become (p0:=undef) ((hok w b v1).1 hh)
     ·obtain rfl:b=b2:=Option.some.inj (hb.symm.trans e1)
      subst e2
      refine become (p0:=undef) (Calls.mono ((hok w b v1).2 hh) fun en w'=>?_)
      rintro ⟨rfl,hk⟩
      exact ⟨rfl,⟨hk.os,hk.tape,hk.output,hk.size,fun k q _=>hk.block k q (by simp)⟩,(hk.block b hlt.1 (by simp)).trans hh⟩
    ·cases e
   | false=>
    rw [hcc] at e
    simp only [cond_false] at e
    split at e
    ·rename_i ety hst
     have hT:T.st=some (f,BT,ety):=by
      unfold A8x at hst
      split at hst
      ·rename_i f' B' e' hq
       cases hc:(Nat.beq f' f&&Nat.beq B' BT) with
       | false=>rw [hc] at hst; cases hst
       | true=>
        rw [hc] at hst
        simp only [Bool.and_eq_true] at hc
        cases hst
        rw [hq,Nat.eq_of_beq_eq_true hc.1,Nat.eq_of_beq_eq_true hc.2]
      ·cases hst
     obtain ⟨hcal,hok⟩:=hs.st f BT ety hT
     refine ⟨hcal,?_⟩
     obtain ⟨p,e1,e⟩:=A6 e
     cases e
     have hbytes:F4 p.2=true:=by simpa [Ra] using hcs
     obtain ⟨⟨cs1,o1,o2⟩,k2,k3⟩:=o7 h.res e1 hL1.1
     have hne:v1.ownBlock≠some b:=by
      rw [k2]
      intro q
      cases hp:p.1 with
      | none=>rw [hp] at q; cases q
      | some j=>
       rw [hp] at q
       have:j=id:=h.inj j id b q hb
       subst this
       obtain ⟨e',r1,_⟩:=Asf e1 j hp
       rw [hr] at r1
       cases r1
     refine Calls.mono (hok w b v0 v1 p.2 cs1 hbytes hh o1 (o2.imp fun _ _ _=>trivial) hne) fun en w'=>?_
     rintro ⟨rfl,hk⟩
     rw [k2] at hk
     let g':Gh:=⟨fun j=>if p.1=some j then none else g.blk j,g.hdr,g.av⟩
     have hgb:∀ j c,g'.blk j=some c→g.blk j=some c∧p.1≠some j:=by
      intro j c q
      by_cases hq:p.1=some j
      ·have:g'.blk j=none:=if_pos hq
       rw [this] at q
       cases q
      ·have:g'.blk j=g.blk j:=if_neg hq
       exact ⟨by rw [← this]; exact q,hq⟩
     have hmem:∀ c,c∈(p.1.bind g.blk).toList→∃ j,p.1=some j∧g.blk j=some c:=by
      intro c hc
      simp only [Option.mem_toList] at hc
      obtain ⟨j,q1,q2⟩:=A6 hc
      exact ⟨j,q1,q2⟩
     have hS:∀ c,Ev s g c→c < w.heap.size→Ev (Fo s p.1) g' c∧w'.heap[c]? = w.heap[c]? := by
      intro c hc hc'
      refine ⟨⟨hc.1,fun j hj hk'=>?_⟩,hk.block c hc' (fun q=>?_)⟩
      ·obtain ⟨q1,q2⟩:=hgb j c hk'
       rw [S8,if_neg q2] at hj
       exact hc.2 j hj q1
      ·obtain ⟨j,q1,q2⟩:=hmem c q
       exact hc.2 j (k3 j q1) q2
     have hI:∀ j,Ay s g (Fo s p.1) g' j:=by
      intro j
      by_cases q:p.1=some j
      ·exact .inl (by rw [S8,if_pos q])
      ·exact Ay.same (by rw [S8,if_neg q]) (if_neg q) rfl
     refine ⟨_,g',rfl,⟨hk.toKp h.base (fun c hc=>?_),hS,hI,rfl⟩,?_,⟨rfl,rfl⟩⟩
     ·obtain ⟨j,q1,q2⟩:=hmem c hc
      exact (h.lt j c q2).2.1
     ·refine h.step h.size h.defers hk.size hS hI (fun i=>.inl ⟨by cases p.1<;>rfl,rfl⟩) (fun j=>?_) (fun i j c hi hj=>h.inj i j c (hgb i c hi).1 (hgb j c hj).1) (fun i c hi=>?_) rfl
      ·by_cases q:p.1=some j
       ·right
        rw [S8,if_pos q]
        exact if_pos q
       ·left
        refine ⟨by rw [S8,if_neg q],if_neg q,rfl,fun c hc=>hk.block c (h.lt j c hc).1 (fun q2=>?_)⟩
        obtain ⟨j',q3,q4⟩:=hmem c q2
        exact q (by rw [q3,h.inj j' j c q4 hc])
      ·obtain ⟨q1,_⟩:=hgb i c hi
       exact ⟨Nat.lt_of_lt_of_le (h.lt i c q1).1 hk.size,(h.lt i c q1).2⟩
    ·cases e
  ·cases e
 ·cases e
theorem Am1 (n:Nat) (s:St) (d:Option Tmp) (av:AV):(s.put n d av).res=s.res:=by
 cases d with
 | none=>rfl
 | some d=>unfold St.put; simp only; split<;>rfl
theorem Qr (h:B5 n B Iq s g a w) {av:AV} {v:Value} (d:Option Tmp) (hv:Wz s g w av v):B5 n B Iq (s.put n d av) g (a.put d v) w∧Go B Iq s g w (s.put n d av) g w:=by
 have hr:=Am1 n s d av
 have hS:∀ b,Ev s g b→b < w.heap.size→Ev (s.put n d av) g b∧w.heap[b]? = w.heap[b]? := by
  intro b hb _
  refine ⟨⟨hb.1,fun id hl=>?_⟩,rfl⟩
  rw [hr] at hl
  exact hb.2 id hl
 have hI:∀ id,Ay s g (s.put n d av) g id:=fun id=>Ay.same (by rw [hr]) rfl rfl
 refine ⟨h.step ?_ ?_ (Nat.le_refl _) hS hI (fun i=>?_) (fun id=>.inl ⟨by rw [hr],rfl,rfl,fun _ _=>rfl⟩) h.inj h.lt rfl,⟨Kp.refl B Iq w,hS,hI,rfl⟩⟩
 ·cases d with
  | none=>exact h.size
  | some d=>simp [Act.put,h.size]
 ·cases d with
  | none=>exact h.defers
  | some d=>exact h.defers
 ·cases d with
  | none=>exact .inl ⟨rfl,rfl⟩
  | some d=>
   by_cases hdn:Nat.blt d n=true
   ·have hlt:d < a.tmps.size:=by rw [h.size]; exact Nat.le_of_ble_eq_true hdn
    by_cases q:i=d
    ·subst q
     right
     have hc:(s.put n (some i) av).cell i=av:=by simp [St.put,St.setCell,hdn]
     rw [hc]
     have hv':Wz (s.put n (some i) av) g w av v:=Wz.step hS hI hv
     have:(a.put (some i) v).tmps.getD i undef=v:=by simp [Act.put,Array.getD,hlt]
     rw [this]
     exact hv'
    ·left
     refine ⟨by simp [St.put,St.setCell,hdn,Ax _ _ q],?_⟩
     simp [Act.put,Array.getD_eq_getD_getElem?,Array.getElem?_setIfInBounds_ne (Ne.symm q)]
   ·have hge:a.tmps.size≤d:=by
     rw [h.size]
     rcases Nat.lt_or_ge d n with q | q
     ·exact absurd (Nat.ble_eq_true_of_le q) hdn
     ·exact q
    left
    refine ⟨by simp [St.put,hdn],?_⟩
    simp [Act.put,Array.setIfInBounds_eq_of_size_le hge]
theorem Od.call {f:FuncId} {xs:List Operand} {o:Oper} (hc:Of o=some (f,xs)) (hcal:Lq P f) {av:AV} {s':St} (h:Abt P f (xs.map a.eval).toArray n B Iq s g a w av s'):Od P n B Iq s g a w o av s':=by
 obtain ⟨dst,op,type,pos,after,guard⟩:=o
 unfold Of at hc
 split at hc
 ·rename_i c hop
  split at hc<;>cases hc
  rename_i hcallee
  obtain ⟨callee,args,argTypes⟩:=c
  simp only at hop hcallee
  subst hop hcallee
  intro K Q hK
  unfold Oper.wp
  rw [execOp_call_go,Aga hcal,Oper.upon_enter]
  have hargs:(#[]++args.map a.eval++#[]:Array Value)=(args.toList.map a.eval).toArray:=by
   apply Array.toList_inj.1
   simp
  rw [hargs]
  refine Calls.mono h fun en w'=>?_
  rintro ⟨v,g',rfl,k1,k2,k3⟩
  exact hK v g' w' k1 k2 k3
 ·cases hc
theorem A3i {T:Tb} (hs:A1 P T) (h:B5 n B Iq s g a w) {nid:Nat} {o:Oper} {cs:List Bool} {av:AV} {s':St} (e:A3h P T s nid o=some (cs,av,s')) (hcs:Ra cs=true):Od P n B Iq s g a w o av s':=by
 unfold A3h at e
 split at e
 ·rename_i f xs hc
  split at e
  ·rename_i vs hvs
   obtain ⟨k1,k2⟩:=Az1 hs h (Abs h hvs) e hcs
   exact Od.call hc k1 k2
  ·cases e
 ·exact Av9 h (by rw [e]; simp [Nm,hcs])
theorem Akp {a b:List Bool}:Ra (a++b)=true→Ra a=true∧Ra b=true:=by
 induction a with
 | nil=>intro h; exact ⟨rfl,h⟩
 | cons x r ih=>
  intro h
  simp only [List.cons_append,Ra,Bool.and_eq_true] at h ⊢
  exact ⟨⟨h.1,(ih h.2).1⟩,(ih h.2).2⟩
theorem Az2 {T:Tb} (hs:A1 P T) {ops:Array Oper} {Q:Exit→Act→World→Prop}:∀ {l:List Oper} {nid:Nat} {s:St} {g:Gh} {a:Act} {w:World} {cs:List Bool} {s':St},
  A5v P T n l nid s=some (cs,s')→Ra cs=true→B5 n B Iq s g a w→(∀ g' a' w',Go B Iq s g w s' g' w'→B5 n B Iq s' g' a' w'→Q .normal a' w')→wpList P ops Q l a w
 | [],nid,s,g,a,w,cs,s',e,hcs,h,hk=>by cases e; exact hk g a w (Go.refl _ _ _ _ _) h
 | o::l,nid,s,g,a,w,cs,s',e,hcs,h,hk=>by
  simp only [A5v] at e
  split at e
  ·cases e
  ·rename_i hg
   split at e
   ·rename_i cs1 av s1 e1
    split at e
    ·rename_i cs2 s2 e2
     cases e
     obtain ⟨b1,b2⟩:=Akp hcs
     unfold wpList
     have hw:Region.wanted o (yielded ops a.tmps)=true:=by unfold Region.wanted; rw [hg]
     rw [hw,if_pos rfl]
     left
     refine A3i hs h e1 b1 _ Q fun v g' w' k1 k2 k3=>?_
     obtain ⟨r1,r2⟩:=Qr k2 o.dst k3
     exact Az2 hs e2 b2 r1 fun g2 a2 w2 q1 q2=>hk g2 a2 w2 ((k1.trans r2).trans q1) q2
    ·cases e
   ·cases e
def A9p (r:Bool):Exit:=bif r then .ret else .normal
theorem A5x {T:Tb} (hs:A1 P T):∀ (c:Code) {nid:Nat} {s:St} {g:Gh} {a:Act} {w:World} {cs:List Bool} {r:Bool} {s':St} {Q:Exit→Act→World→Prop},
  Aq6 P T n c nid s=some (cs,r,s')→Ra cs=true→B5 n B Iq s g a w→(∀ g' a' w',Go B Iq s g w s' g' w'→B5 n B Iq s' g' a' w'→Q (A9p r) a' w')→c.wp P Q a w:=by
 intro c
 induction c with
 | skip=>intro nid s g a w cs r s' Q e hcs h hk; cases e; exact wp_skip (hk g a w (Go.refl _ _ _ _ _) h)
 | region id ops draw=>
  intro nid s g a w cs r s' Q e hcs h hk
  simp only [Aq6] at e
  cases draw with
  | true=>cases e
  | false=>
   simp only [cond_false] at e
   split at e
   ·rename_i cs1 s1 e1
    cases e
    exact wp_region_list (Az2 hs e1 hcs h hk)
   ·cases e
 | seq x y ihx ihy=>
  intro nid s g a w cs r s' Q e hcs h hk
  simp only [Aq6] at e
  split at e
  ·rename_i cs1 s1 e1
   cases e
   exact wp_seq (ihx e1 hcs h fun g' a' w' k1 k2=>hk g' a' w' k1 k2)
  ·rename_i cs1 s1 e1
   split at e
   ·rename_i cs2 r2 s2 e2
    cases e
    obtain ⟨b1,b2⟩:=Akp hcs
    exact wp_seq (ihx e1 b1 h fun g' a' w' k1 k2=>ihy e2 b2 k2 fun g2 a2 w2 q1 q2=>hk g2 a2 w2 (k1.trans q1) q2)
   ·cases e
  ·cases e
 | cond c x y ihx ihy=>
  intro nid s g a w cs r s' Q e hcs h hk
  simp only [Aq6] at e
  split at e
  ·rename_i ht
   exact wp_cond_true (C7 h ht).1 (ihx e hcs h hk)
  ·rename_i ht
   exact wp_cond_false (C7 h ht).1 (ihy e hcs h hk)
  ·cases e
 | ret=>intro nid s g a w cs r s' Q e hcs h hk; cases e; exact wp_ret (hk g a w (Go.refl _ _ _ _ _) h)
 | _=>intros; rename_i e _ _ _; first | (cases e; done) | (simp [Aq6] at e; done)
theorem s5 (h:B5 n B Iq s g a w):∀ {rv:List ResultVar} {vs:List Vl},Qq P s rv=some vs→
  ∃ us,(rv.mapM fun x:ResultVar=>(match x with | .tmp t=>pure (a.tmps.getD t undef) | .cell b t=>do loadVar t (← asAddr (a.tmps.getD b undef)):Sem Value)).run P w=.ok us w∧VLR s g w vs us
 | [],vs,e=>by cases e; exact ⟨[],by simp,trivial⟩
 | .tmp t::r,vs,e=>by
  simp only [Qq] at e
  split at e
  ·rename_i v hv
   obtain ⟨vs',e1,rfl⟩:=Option.map_eq_some_iff.1 e
   obtain ⟨us,k1,k2⟩:=s5 h e1
   have k:=h.cell t
   rw [hv] at k
   refine ⟨a.tmps.getD t undef::us,?_,k,k2⟩
   simp only [List.mapM_cons,Sem.run_bind,Sem.run_pure,Result.andThen_ok]
   rw [k1]
   rfl
  ·cases e
 | .cell b t::r,vs,e=>by
  simp only [Qq] at e
  split at e
  ·rename_i v hv
   obtain ⟨vs',e1,rfl⟩:=Option.map_eq_some_iff.1 e
   obtain ⟨us,k1,k2⟩:=s5 h e1
   unfold Ani at hv
   obtain ⟨l,q1,hv⟩:=A6 hv
   obtain ⟨ls,q2,hv⟩:=A6 hv
   obtain ⟨hl,_⟩:=C8 h q1
   obtain ⟨ad,cs,hu,hL,hc⟩:=A7u h q2 hl
   obtain ⟨u,hr,hvv⟩:=Zd hv hL hc
   have hu':a.tmps.getD b undef=.pointer (some ad):=hu
   refine ⟨u::us,?_,hvv,k2⟩
   simp only [List.mapM_cons,Sem.run_bind,hu']
   have ha:(asAddr (.pointer (some ad)):Sem Addr).run P w=.ok ad w:=by simp [asAddr]
   rw [ha]
   simp only [Result.andThen_ok,hr,k1]
   rfl
  ·cases e
theorem Akq (h:B5 n B Iq s g a w) {fn:Func} {vs:List Vl} (e:Qq P s fn.results.toList=some vs):∃ us,(results fn a.tmps).run P w=.ok (At3 us) w∧VLR s g w vs us:=by
 obtain ⟨us,k1,k2⟩:=s5 h e
 refine ⟨us,?_,k2⟩
 unfold results
 rw [Array.mapM_eq_mapM_toList]
 simp only [Sem.run_bind,Sem.run_map]
 refine Eq.trans (congrArg (fun r:Result (List Value)=>(r.andThen fun a w'=>Result.ok a.toArray w').andThen fun a w'=>Sem.run P (pure (if h:a.size=1 then a[0] else Value.tuple a)) w') k1) ?_
 clear k1 k2
 match us with
 | []=>rfl
 | [u]=>rfl
 | u::v::us=>rfl
theorem A5y {T:Tb} (hs:A1 P T) (h:B5 n B Iq s g a w) {f:FuncId} {fn:Func} (hf:P.funcs[f]? = some fn) {vs:List Vl} {args:List Value} (hv:VLR s g w vs args) {nid:Nat} {av:AV} {s':St}
  (e:Nm (A5w P T fn vs s nid)=some (av,s')):Abt P f args.toArray n B Iq s g a w av s':=by
 obtain ⟨cs,e,hcs⟩:=Cg e
 unfold A5w at e
 split at e
 ·cases e
 ·rename_i c hb
  cases hle:Nat.ble vs.length fn.ntmps with
  | false=>rw [hle] at e; cases e
  | true=>
   rw [hle] at e
   simp only [cond_true] at e
   have hle:=Nat.le_of_ble_eq_true hle
   split at e
   ·rename_i cs1 r1 s1 e1
    split at e
    ·rename_i vs' e2
     cases e
     have hlen:=hv.length
     have hent:B5 fn.ntmps B Iq (Auh s vs) g { tmps:=args.toArray++Array.replicate (fn.ntmps - args.toArray.size) undef,defers:=[] } w:=by
      refine ⟨by simp; omega,rfl,h.base,fun i=>?_,fun id=>?_,h.inj,h.lt,h.avB⟩
      ·show Wz _ _ _ (match vs[i]? with | some v=>.vl v | none=>.dead) _
       cases hi:vs[i]? with
       | none=>trivial
       | some v=>
        obtain ⟨u,q1,q2⟩:=hv.get hi
        have hlt:=(List.getElem?_eq_some_iff.1 q1).1
        have:(args.toArray++Array.replicate (fn.ntmps - args.toArray.size) undef).getD i undef=u:=by
         rw [Array.getD_eq_getD_getElem?,Array.getElem?_append_left (by simpa using hlt),List.getElem?_toArray,q1]
         rfl
        rw [this]
        exact VlR.step (s:=s) (s':=Auh s vs) (g:=g) (g':=g) (w:=w) (w':=w) (fun b hb _=>⟨hb,rfl⟩) (fun _=>Ay.same rfl rfl rfl) q2
      ·exact Mc.step (s:=s) (s':=Auh s vs) (g:=g) (g':=g) (w:=w) (w':=w) (fun b hb _=>⟨hb,rfl⟩) (fun _=>Ay.same rfl rfl rfl) rfl rfl (fun _ _=>rfl) (h.res id)
     refine calls_of_wp hf hb ?_
     refine A5x hs c e1 hcs hent fun g' a' w' k1 k2=>?_
     obtain ⟨us,q1,q2⟩:=Akq k2 e2
     have hgo:Go B Iq s g w ⟨s.cell,s1.res⟩ g' w':=⟨k1.kp,fun b hb hl=>k1.S b hb hl,fun id=>k1.ref id,k1.av⟩
     have hrel:B5 n B Iq ⟨s.cell,s1.res⟩ g' a w':=by
      refine h.step h.size h.defers k1.kp.size (fun b hb hl=>hgo.S b hb hl) (fun id=>hgo.ref id) (fun i=>.inl ⟨rfl,rfl⟩) (fun id=>.inr ?_) k2.inj (fun i b hi=>⟨(k2.lt i b hi).1,(k2.lt i b hi).2.1,by rw [← k1.av]; exact (k2.lt i b hi).2.2⟩) k1.av
      exact Mc.step (s:=s1) (s':=⟨s.cell,s1.res⟩) (g:=g') (g':=g') (w:=w') (w':=w') (fun b hb _=>⟨hb,rfl⟩) (fun _=>Ay.same rfl rfl rfl) rfl rfl (fun _ _=>rfl) (k2.res id)
     have hav:Wz ⟨s.cell,s1.res⟩ g' w' (Ayf vs') (At3 us):=Wz.step (s:=s1) (s':=⟨s.cell,s1.res⟩) (g:=g') (g':=g') (w:=w') (w':=w') (fun b hb _=>⟨hb,rfl⟩) (fun _=>Ay.same rfl rfl rfl) (A29 q2)
     cases r1
     ·exact ⟨k2.defers,_,q1,_,g',rfl,hgo,hrel,hav⟩
     ·exact ⟨k2.defers,_,q1,_,g',rfl,hgo,hrel,hav⟩
    ·cases e
   ·cases e
theorem A3j:∀ {ls:List Lf} {cs:List Value},Hl s g w ls cs→VLR s g w (A5u ls) cs
 | [],[],_=>trivial
 | [],_::_,h=>h.elim
 | _::_,[],h=>h.elim
 | _::_,_::_,h=>⟨h.1,A3j h.2⟩
theorem VLR.append:∀ {vs vs':List Vl} {us us':List Value},VLR s g w vs us→VLR s g w vs' us'→VLR s g w (vs++vs') (us++us')
 | [],_,[],_,_,h'=>h'
 | [],_,_::_,_,h,_=>h.elim
 | _::_,_,[],_,h,_=>h.elim
 | _::_,_,_::_,_,h,h'=>⟨h.1,VLR.append h.2 h'⟩
theorem s6 {sigs:Tb} (hs:A1 P sigs) (h:B5 n B Iq s g a w) {nid:Nat} {o:Oper} {av:AV} {s':St} (e:S7 P sigs s nid o=some (av,s')):Od P n B Iq s g a w o av s':=by
 unfold S7 at e
 split at e
 ·rename_i f xs hc
  split at e
  ·rename_i vs hvs
   have hV:=Abs h hvs
   split at e
   ·rename_i sd hsd
    obtain ⟨hcal,hsound⟩:=hs.sd f sd hsd
    exact Od.call hc hcal (Ash h hsound hV e)
   ·split at e
    ·rename_i fn hfn
     obtain ⟨q1,q2,q3⟩:=hs.inl f fn hfn
     exact Od.call hc ⟨fn,q1,q2,q3⟩ (A5y hs h q1 hV e)
    ·obtain ⟨cs,e1,hcs⟩:=Cg e
     obtain ⟨q1,q2⟩:=Az1 hs h hV e1 hcs
     exact Od.call hc q1 q2
  ·cases e
 ·split at e
  ·rename_i f xs ls hc
   split at e
   ·rename_i vs hvs
    split at e
    ·rename_i sd hsd
     obtain ⟨hcal,hsound⟩:=hs.sd f sd hsd
     obtain ⟨dst,op,type,pos,after,guard⟩:=o
     unfold Af9 at hc
     split at hc
     ·rename_i c hop
      split at hc
      ·rename_i t hcallee
       split at hc<;>cases hc
       rename_i hcell
       obtain ⟨callee,args,argTypes⟩:=c
       simp only at hop hcallee
       subst hop hcallee
       have k:=h.cell t
       rw [hcell] at k
       obtain ⟨caps,hu,hL⟩:=k
       have hu':a.eval (.tmp t)=.func (.func f) #[] caps:=hu
       intro K Q hK
       unfold Oper.wp
       have hex:execOp a.eval ⟨dst,.call ⟨.value (.tmp t),args,argTypes⟩,type,pos,after,guard⟩=callFunc f (#[]++args.map a.eval++caps):=by
        simp only [execOp,resolve,hu',Deferred.ofValue]
        rfl
       rw [hex,Aga hcal,Oper.upon_enter]
       have hargs:(#[]++args.map a.eval++caps:Array Value)=(args.toList.map a.eval++caps.toList).toArray:=by
        apply Array.toList_inj.1
        simp
       rw [hargs]
       refine Calls.mono (Ash h hsound (VLR.append (Abs h hvs) (A3j hL)) e) fun en w'=>?_
       rintro ⟨v,g',rfl,k1,k2,k3⟩
       exact hK v g' w' k1 k2 k3
      ·cases hc
     ·cases hc
    ·cases e
   ·cases e
  ·exact Av9 h e
end
end
section
def Aek:Lf→List Nat
 | .row id=>[id]
 | .ptr id _=>[id]
 | .rp id _ _=>[id]
 | .sp id=>[id]
 | _=>[]
def Zl:List Lf→List Nat
 | []=>[]
 | l::r=>Aek l++Zl r
def An5 (v:Vl):List Nat:=Zl v.ls
def Am2:List Vl→List Nat
 | []=>[]
 | v::r=>An5 v++Am2 r
def Og:AV→List Nat
 | .dead=>[]
 | .vl v=>An5 v
 | .tp vs=>Am2 vs
 | .fn _ ls=>Zl ls
def Zm:Qp→List Nat
 | .box _ ls=>Zl ls
 | _=>[]
def An6:Qp→List Nat
 | .last _ _ _ _ j=>[j]
 | _=>[]
def Mg:List Operand→List Nat
 | []=>[]
 | .tmp t::r=>t::Mg r
 | _::r=>Mg r
def D1 (o:Oper):List Nat:=Mg o.op.operands.toList
def Lm (l:List Nat) (i:Nat):Bool:=match l with
 | []=>false
 | j::r=>Nat.beq j i || Lm r i
theorem Co {l:List Nat} {i:Nat}:Lm l i=true↔i∈l:=by
 induction l with
 | nil=>simp [Lm]
 | cons j r ih=>
  simp only [Lm,Bool.or_eq_true,ih,List.mem_cons,Nat.beq_eq]
  constructor
  ·rintro (h | h)
   ·exact .inl h.symm
   ·exact .inr h
  ·rintro (h | h)
   ·exact .inl h.symm
   ·exact .inr h
def In (s:St):List Nat→List Nat
 | []=>[]
 | i::r=>Og (s.cell i)++In s r
def Km (s:St):List Nat→List Nat
 | []=>[]
 | i::r=>Zm (s.res i)++Km s r
def Agb (s:St) (sl:List Nat):List Nat:=
 let l0:=In s sl
 let l1:=l0++Km s l0
 l1++Km s l1
def Ael (s:St):List Nat→List Nat
 | []=>[]
 | i::r=>An6 (s.res i)++Ael s r
def Oh (o:Oper):Bool:=match o.op with
 | .move x=>!Ako x
 | .assign x=>!Ako x
 | .indexAddr _ _ _=>true
 | .call c=>(match c.callee with
  | .builtin .len=>true
  | _=>false)
 | _=>false
def Aq7 (o:Oper):Bool:=match o.op with
 | .move x=>!Ako x
 | .assign x=>!Ako x
 | _=>false
theorem A3k {o:Oper} (h:Aq7 o=true):Oh o=true:=by
 unfold Aq7 at h
 unfold Oh
 split at h
 ·rename_i q; rw [q]; exact h
 ·rename_i q; rw [q]; exact h
 ·cases h
def S9 (s:St) (o:Oper):List Nat:=if Aq7 o then [] else if Oh o then Agb s (D1 o) else Agb s (D1 o)++Ael s (Agb s (D1 o))
def Agc (l m:List Nat):Bool:=match l with
 | []=>true
 | i::r=>Lm m i&&Agc r m
theorem Ai1 {l m:List Nat}:Agc l m=true↔∀ i∈l,i∈m:=by
 induction l with
 | nil=>simp [Agc]
 | cons j r ih=>simp [Agc,Co,ih]
def An7:Nat:=4
def Oa (nid:Nat):List Nat:=[nid,nid + 1,nid + 2,nid + 3]
def St.view (s:St) (sl ids:List Nat):St:=⟨fun i=>if Lm sl i then s.cell i else .dead,fun id=>if Lm ids id then s.res id else .unborn⟩
def St.lay (s v:St) (m:List Nat):St:=⟨s.cell,fun id=>if Lm m id then v.res id else s.res id⟩
def Sr (o:Oper) (s:St) (m:List Nat):Bool:=Agc (Km s m) m&&(Oh o || Agc (Ael s m) m)
def Acx (P:Program) (sigs:Tb) (s:St) (nid:Nat) (o:Oper):Option (AV×St):=
 let sl:=D1 o
 let ids:=S9 s o
 if P2 s nid An7 then (if Sr o s ids then (S7 P sigs (s.view sl ids) nid o).bind fun p=>
  if Aq7 o || Agc (Og p.1) (ids++Oa nid) then (if Sr o p.2 (ids++Oa nid) then some p else none) else none
 else none) else none
section
variable {P:Program} {n B:Nat} {Iq:List Nat} {s:St} {g:Gh} {a:Act} {w:World}
theorem s7 (h:∀ id,Mc s g w id (s.res id)) {id b:Nat} (hb:g.blk id=some b):(s.res id).live=true:=by
 have r:=h id
 cases hr:s.res id with
 | box T ls=>rfl
 | row e t xs=>rfl
 | unborn=>rw [hr] at r; exact absurd (hb.symm.trans r) (by simp)
 | dead=>rw [hr] at r; exact absurd (hb.symm.trans r) (by simp)
 | frozen t xs=>rw [hr] at r; exact absurd (hb.symm.trans r.2) (by simp)
 | last _ _ _ _ _=>rfl
 | map _ _=>rfl
 | iter _ _ _ _=>rfl
theorem Dp.part {s s':St} {g g':Gh} {w:World} {m:List Nat} (hS:∀ b,Ev s g b→b < w.heap.size→Ev s' g' b) (hm:∀ id∈m,s'.res id=s.res id∧g'.blk id=g.blk id∧g'.hdr id=g.hdr id):
  ∀ {l:Lf} {u:Value},(∀ id∈Aek l,id∈m)→Dp s g w l u→Dp s' g' w l u
 | .c _,_,_,h=>h
 | .sl _ _,_,_,h=>Ty.K_keep (fun b hb hl=>⟨hS b hb hl,rfl⟩) h
 | .row id,u,hi,h=>by
  obtain ⟨e1,e2,e3⟩:=hm id (hi id (by simp [Aek]))
  simp only [Dp] at h ⊢
  rw [e1,e3]
  exact h
 | .ptr id off,u,hi,h=>by
  obtain ⟨e1,e2,e3⟩:=hm id (hi id (by simp [Aek]))
  simp only [Dp] at h ⊢
  rw [e1,e2]
  exact h
 | .ep t xs i off,u,_,⟨ad,cs,h1,h2,h3,h4,h5⟩=>⟨ad,cs,h1,hS _ h2 h3,h3,Ty.K_keep (fun b hb hl=>⟨hS b hb hl,rfl⟩) h4,h5⟩
 | .rp id i off,u,hi,h=>by
  obtain ⟨e1,e2,e3⟩:=hm id (hi id (by simp [Aek]))
  simp only [Dp] at h ⊢
  rw [e1,e2]
  exact h
 | .sp id,u,hi,h=>by
  obtain ⟨e1,e2,e3⟩:=hm id (hi id (by simp [Aek]))
  simp only [Dp] at h ⊢
  rw [e1,e2]
  exact h
section
variable {s':St} {g':Gh} {m:List Nat} (hS:∀ b,Ev s g b→b < w.heap.size→Ev s' g' b) (hm:∀ id∈m,s'.res id=s.res id∧g'.blk id=g.blk id∧g'.hdr id=g.hdr id)
 include hS hm
theorem Hl.part:∀ {ls:List Lf} {cs:List Value},(∀ id∈Zl ls,id∈m)→Hl s g w ls cs→Hl s' g' w ls cs
 | [],[],_,_=>trivial
 | [],_::_,_,h=>h.elim
 | _::_,[],_,h=>h.elim
 | l::ls,_::_,hi,h=>⟨⟨Dp.part hS hm (fun id q=>hi id (by simp [Zl,q])) h.1.1,h.1.2⟩,Hl.part (fun id q=>hi id (by simp [Zl,q])) h.2⟩
theorem VlR.part {v:Vl} {u:Value} (hi:∀ id∈An5 v,id∈m) (h:VlR s g w v u):VlR s' g' w v u:=by
 cases v with
 | lf l=>exact ⟨Dp.part hS hm (fun id q=>hi id (by simp [An5,Vl.ls,Zl,q])) h.1,h.2⟩
 | ag ls=>
  obtain ⟨cs,e,hL⟩:=h
  exact ⟨cs,e,Hl.part hS hm hi hL⟩
theorem Wz.part {v:AV} {u:Value} (hi:∀ id∈Og v,id∈m) (h:Wz s g w v u):Wz s' g' w v u:=by
 cases v with
 | dead=>trivial
 | vl v=>exact VlR.part hS hm hi h
 | tp vs=>
  obtain ⟨us,h1,h2,h3⟩:=h
  refine ⟨us,h1,h2,fun j l hl=>?_⟩
  obtain ⟨v,e1,e2⟩:=h3 j l hl
  refine ⟨v,e1,VlR.part hS hm (fun id q=>hi id ?_) e2⟩
  have hmem:=List.mem_of_getElem? hl
  clear h1 h2 h3 hl e1 e2 hi
  induction vs with
  | nil=>cases hmem
  | cons x r ih=>
   rcases List.mem_cons.1 hmem with rfl | hmem
   ·simp [Og,Am2,q]
   ·have:=ih hmem
    simp only [Og,Am2,List.mem_append] at this ⊢
    exact .inr this
 | fn f ls=>
  obtain ⟨cs,h1,h2⟩:=h
  exact ⟨cs,h1,Hl.part hS hm hi h2⟩
theorem Mc.part {id:Nat} (hid:id∈m) {r:Qp} (hi:∀ j∈Zm r,j∈m) (hwk:∀ j∈An6 r,j∈m) (h:Mc s g w id r):Mc s' g' w id r:=by
 obtain ⟨e1,e2,e3⟩:=hm id hid
 cases r with
 | unborn=>exact e2.trans h
 | dead=>exact e2.trans h
 | box T ls=>
  obtain ⟨b,cs,h1,h2,h3⟩:=h
  exact ⟨b,cs,e2.trans h1,h2,Hl.part hS hm hi h3⟩
 | row e t xs=>
  obtain ⟨cs,h1,h2,h3⟩:=h
  exact ⟨cs,by rw [e3]; exact h1,h2.imp hS,by rw [e2,e3]; exact h3⟩
 | frozen t xs=>
  obtain ⟨h1,h2⟩:=h
  exact ⟨by rw [e3]; exact Ty.K_keep (fun b hb hl=>⟨hS b hb hl,rfl⟩) h1,e2.trans h2⟩
 | last e t xs c j=>
  obtain ⟨cs,h1,h2,h3,h4⟩:=h
  obtain ⟨q1,q2,q3⟩:=hm j (hwk j (by simp [An6]))
  refine ⟨cs,by rw [e3]; exact h1,h2.imp hS,by rw [e2,e3]; exact h3,fun u hc hu=>?_⟩
  rw [q1,q3]
  exact h4 u hc hu
 | map t xs=>
  obtain ⟨b,es,clock,h1,h2,h3⟩:=h
  exact ⟨b,es,clock,e2.trans h1,e3.trans h2,h3⟩
 | iter t xs seen cur=>
  obtain ⟨b,r,es,clock,since,c0,sn,h1,h2,h3,h4,h5,h6⟩:=h
  exact ⟨b,r,es,clock,since,c0,sn,e2.trans h1,e3.trans h2,h3,hS b h4 h5,h5,h6⟩
end
theorem An8 {i id:Nat}:∀ {l:List Nat},i∈l→id∈An6 (s.res i)→id∈Ael s l
 | j::r,h,q=>by
  rcases List.mem_cons.1 h with rfl | h
  ·exact List.mem_append_left _ q
  ·exact List.mem_append_right _ (An8 h q)
def Gh.view (s:St) (g:Gh) (ids:List Nat):Gh:=⟨fun id=>if Lm ids id then g.blk id else none,g.hdr,fun b=>g.av b∨∃ id,id ∉ ids∧g.blk id=some b⟩
theorem Acy {i id:Nat}:∀ {sl:List Nat},i∈sl→id∈Og (s.cell i)→id∈In s sl
 | j::r,h,q=>by
  rcases List.mem_cons.1 h with rfl | h
  ·exact List.mem_append_left _ q
  ·exact List.mem_append_right _ (Acy h q)
theorem Akr {i id:Nat}:∀ {l:List Nat},i∈l→id∈Zm (s.res i)→id∈Km s l
 | j::r,h,q=>by
  rcases List.mem_cons.1 h with rfl | h
  ·exact List.mem_append_left _ q
  ·exact List.mem_append_right _ (Akr h q)
theorem A3l {sl ids:List Nat} (b:Nat) (hb:Ev s g b) (hres:∀ id,Mc s g w id (s.res id)):Ev (s.view sl ids) (g.view s ids) b:=by
 refine ⟨?_,fun id hl hk=>?_⟩
 ·rintro (q | ⟨id,q1,q2⟩)
  ·exact hb.1 q
  ·exact hb.2 id (s7 hres q2) q2
 ·simp only [Gh.view] at hk
  split at hk
  ·rename_i hid
   exact hb.2 id (s7 hres hk) hk
  ·cases hk
theorem A3m (h:B5 n B Iq s g a w) {sl ids:List Nat} (hc:∀ i∈sl,∀ id∈Og (s.cell i),id∈ids) (hr:∀ i∈ids,∀ id∈Zm (s.res i),id∈ids) (hw:∀ i∈ids,∀ id∈An6 (s.res i),id∈ids):
  B5 n w.heap.size (ids.filterMap g.blk) (s.view sl ids) (g.view s ids) a w:=by
 have hS:∀ b,Ev s g b→b < w.heap.size→Ev (s.view sl ids) (g.view s ids) b:=fun b hb _=>A3l b hb h.res
 have hm:∀ id∈ids,(s.view sl ids).res id=s.res id∧(g.view s ids).blk id=g.blk id∧(g.view s ids).hdr id=g.hdr id:=by
  intro id hid
  have:=Co.2 hid
  refine ⟨?_,?_,rfl⟩
  ·simp [St.view,this]
  ·simp [Gh.view,this]
 refine ⟨h.size,h.defers,Nat.le_refl _,fun i=>?_,fun id=>?_,fun id id' b q1 q2=>?_,fun id b q=>?_,fun b q=>?_⟩
 ·show Wz _ _ _ (if Lm sl i then s.cell i else .dead) _
  split
  ·rename_i hi
   exact Wz.part hS hm (hc i (Co.1 hi)) (h.cell i)
  ·trivial
 ·by_cases hid:id∈ids
  ·rw [(hm id hid).1]
   exact Mc.part hS hm hid (hr id hid) (hw id hid) (h.res id)
  ·have hf:Lm ids id=false:=by
    cases hq:Lm ids id
    ·rfl
    ·exact absurd (Co.1 hq) hid
   have:(s.view sl ids).res id=.unborn:=by simp [St.view,hf]
   rw [this]
   show (g.view s ids).blk id=none
   simp [Gh.view,hf]
 ·simp only [Gh.view] at q1 q2
  split at q1
  ·split at q2
   ·exact h.inj id id' b q1 q2
   ·cases q2
  ·cases q1
 ·simp only [Gh.view] at q
  split at q
  ·rename_i hid
   have hid:=Co.1 hid
   refine ⟨(h.lt id b q).1,.inl (List.mem_filterMap.2 ⟨id,hid,q⟩),?_⟩
   rintro (q2 | ⟨j,q2,q3⟩)
   ·exact (h.lt id b q).2.2 q2
   ·exact q2 (by rw [h.inj j id b q3 q]; exact hid)
  ·cases q
 ·rcases q with q | ⟨id,q1,q2⟩
  ·have:=h.avB b q
   have:=h.base
   omega
  ·exact (h.lt id b q2).1
theorem Awa {l m:List Nat} (h:Agc (Km s l) m=true):∀ i∈l,∀ id∈Zm (s.res i),id∈m:=
 fun i hi id hid=>Ai1.1 h id (Akr hi hid)
theorem Aks {sl:List Nat}:∀ i∈sl,∀ id∈Og (s.cell i),id∈Agb s sl:=
 fun i hi id hid=>List.mem_append_left _ (List.mem_append_left _ (Acy hi hid))
theorem Aem {nid:Nat} (h:P2 s nid An7=true):∀ id∈Oa nid,s.res id=.unborn:=by
 intro id hid
 have:nid≤id∧id < nid + 4:=by
  simp only [Oa,List.mem_cons,List.not_mem_nil,or_false] at hid
  omega
 exact Anu h id this.1 this.2
theorem A71 (h:B5 n B Iq s g a w) {sl ids:List Nat} {nid:Nat} {v':St} {gv':Gh} {w':World} {av:AV} (hfr:∀ id∈Oa nid,s.res id=.unborn)
  (hgo:Go w.heap.size (ids.filterMap g.blk) (s.view sl ids) (g.view s ids) w v' gv' w') (hR:B5 n w.heap.size (ids.filterMap g.blk) v' gv' a w')
  (hav:∀ id∈Og av,id∈ids++Oa nid) (hres:∀ i∈ids++Oa nid,∀ id∈Zm (v'.res i),id∈ids++Oa nid) (hwk:∀ i∈ids++Oa nid,∀ id∈An6 (v'.res i),id∈ids++Oa nid):
  ∃ g',Go B Iq s g w (s.lay v' (ids++Oa nid)) g' w'∧B5 n B Iq (s.lay v' (ids++Oa nid)) g' a w'∧∀ u,Wz v' gv' w' av u→Wz (s.lay v' (ids++Oa nid)) g' w' av u:=by
 generalize hm:ids++Oa nid=m at hav hres hwk ⊢
 have hidm:∀ id∈ids,id∈m:=fun id q=>by rw [← hm]; exact List.mem_append_left _ q
 have hmem:∀ id∈m,id∈ids∨id∈Oa nid:=fun id q=>by rw [← hm] at q; exact List.mem_append.1 q
 have hin:∀ id,Lm m id=true↔id∈m:=fun id=>Co
 have hout:∀ {id},id ∉ m→Lm m id=false:=fun {id} q=>by
  cases hq:Lm m id
  ·rfl
  ·exact absurd ((hin id).1 hq) q
 refine ⟨⟨fun id=>if Lm m id then gv'.blk id else g.blk id,fun id=>if Lm m id then gv'.hdr id else g.hdr id,g.av⟩,?_⟩
 generalize hg':(⟨fun id=>if Lm m id then gv'.blk id else g.blk id,fun id=>if Lm m id then gv'.hdr id else g.hdr id,g.av⟩:Gh)=g'
 generalize hs':s.lay v' m=s'
 have e1:∀ id∈m,s'.res id=v'.res id∧g'.blk id=gv'.blk id∧g'.hdr id=gv'.hdr id:=by
  intro id hid
  have:=(hin id).2 hid
  subst hs' hg'
  simp [St.lay,this]
 have e2:∀ id,id ∉ m→s'.res id=s.res id∧g'.blk id=g.blk id∧g'.hdr id=g.hdr id:=by
  intro id hid
  have:=hout hid
  subst hs' hg'
  simp [St.lay,this]
 have ecell:s'.cell=s.cell:=by subst hs'; rfl
 have eav:g'.av=g.av:=by subst hg'; rfl
 have eavv:gv'.av=(g.view s ids).av:=hgo.av
 have liveBlk:∀ id b,g.blk id=some b→(s.res id).live=true:=fun id b q=>s7 h.res q
 have hS2:∀ b,Ev v' gv' b→b < w'.heap.size→Ev s' g' b:=by
  rintro b ⟨q1,q2⟩ _
  rw [eavv] at q1
  refine ⟨by rw [eav]; exact fun q=>q1 (.inl q),fun id hl hk=>?_⟩
  by_cases hid:id∈m
  ·obtain ⟨a1,a2,a3⟩:=e1 id hid
   rw [a1] at hl
   rw [a2] at hk
   exact q2 id hl hk
  ·obtain ⟨a1,a2,a3⟩:=e2 id hid
   rw [a2] at hk
   exact q1 (.inr ⟨id,fun q=>hid (hidm id q),hk⟩)
 have hS:∀ b,Ev s g b→b < w.heap.size→Ev s' g' b∧w'.heap[b]? = w.heap[b]? := by
  intro b hb hlt
  obtain ⟨k1,k2⟩:=hgo.S b (A3l b hb h.res) hlt
  exact ⟨hS2 b k1 (Nat.lt_of_lt_of_le hlt hgo.kp.size),k2⟩
 have hI:∀ id,Ay s g s' g' id:=by
  intro id
  by_cases hid:id∈m
  ·obtain ⟨a1,a2,a3⟩:=e1 id hid
   rcases hmem id hid with q | q
   ·have r:=hgo.ref id
    unfold Ay at r ⊢
    have hq:=Co.2 q
    have v1:(s.view sl ids).res id=s.res id:=by simp [St.view,hq]
    have v2:(g.view s ids).blk id=g.blk id:=by simp [Gh.view,hq]
    rw [v1,v2] at r
    rw [a1,a2,a3]
    exact r
   ·unfold Ay
    rw [hfr id q]
    exact .inr trivial
  ·obtain ⟨a1,a2,a3⟩:=e2 id hid
   exact Ay.same a1 a2 a3
 have hKp:Kp B Iq w w':=⟨hgo.kp.os,hgo.kp.tape,hgo.kp.output,hgo.kp.size,fun k hk hkI=>by
  refine hgo.kp.block k (Nat.lt_of_lt_of_le hk h.base) (fun q=>?_)
  obtain ⟨id,q1,q2⟩:=List.mem_filterMap.1 q
  rcases (h.lt id k q2).2.1 with q3 | q3
  ·exact hkI q3
  ·omega⟩
 refine ⟨⟨hKp,hS,hI,eav⟩,?_,fun u hu=>Wz.part hS2 e1 hav hu⟩
 refine h.step h.size h.defers hgo.kp.size hS hI (fun i=>.inl ⟨by rw [ecell],rfl⟩) (fun j=>?_) (fun i j b hi hj=>?_) (fun i b hi=>?_) eav
 ·by_cases hj:j∈m
  ·right
   rw [(e1 j hj).1]
   exact Mc.part hS2 e1 hj (hres j hj) (hwk j hj) (hR.res j)
  ·left
   obtain ⟨a1,a2,a3⟩:=e2 j hj
   refine ⟨a1,a2,a3,fun b hb=>hgo.kp.block b (h.lt j b hb).1 (fun q=>?_)⟩
   obtain ⟨id,q1,q2⟩:=List.mem_filterMap.1 q
   exact hj (by rw [h.inj j id b hb q2]; exact hidm id q1)
 ·have far:∀ i j b,i∈m→g'.blk i=some b→j ∉ m→g'.blk j=some b→False:=by
   intro i j b him hi hjm hj
   rw [(e1 i him).2.1] at hi
   rw [(e2 j hjm).2.1] at hj
   refine (hR.lt i b hi).2.2 ?_
   rw [eavv]
   exact .inr ⟨j,fun q=>hjm (hidm j q),hj⟩
  by_cases him:i∈m<;>by_cases hjm:j∈m
  ·rw [(e1 i him).2.1] at hi
   rw [(e1 j hjm).2.1] at hj
   exact hR.inj i j b hi hj
  ·exact (far i j b him hi hjm hj).elim
  ·exact (far j i b hjm hj him hi).elim
  ·rw [(e2 i him).2.1] at hi
   rw [(e2 j hjm).2.1] at hj
   exact h.inj i j b hi hj
 ·by_cases him:i∈m
  ·rw [(e1 i him).2.1] at hi
   obtain ⟨k1,k2,k3⟩:=hR.lt i b hi
   rw [eavv] at k3
   refine ⟨k1,?_,fun q=>k3 (.inl q)⟩
   rcases k2 with k2 | k2
   ·obtain ⟨id,q1,q2⟩:=List.mem_filterMap.1 k2
    exact (h.lt id b q2).2.1
   ·exact .inr (Nat.le_trans h.base k2)
  ·rw [(e2 i him).2.1] at hi
   obtain ⟨k1,k2⟩:=h.lt i b hi
   exact ⟨Nat.lt_of_lt_of_le k1 hgo.kp.size,k2⟩
theorem Asp {o:Oper} {m:List Nat} (h:Sr o s m=true):(∀ i∈m,∀ id∈Zm (s.res i),id∈m)∧(Oh o=false→∀ i∈m,∀ id∈An6 (s.res i),id∈m):=by
 simp only [Sr,Bool.and_eq_true,Bool.or_eq_true] at h
 refine ⟨Awa h.1,fun hl i hi id hid=>?_⟩
 rcases h.2 with q | q
 ·rw [hl] at q; cases q
 ·exact Ai1.1 q id (An8 hi hid)
theorem An9 {o:Oper} (hm:Aq7 o=false):∀ i∈D1 o,∀ id∈Og (s.cell i),id∈S9 s o:=fun i hi id hid=>by
 unfold S9
 rw [hm]
 simp only [Bool.false_eq_true,if_false]
 split
 ·exact Aks i hi id hid
 ·exact List.mem_append_left _ (Aks i hi id hid)
section
variable {s t:St}
theorem Agd {x:Operand} (h:∀ i∈Mg [x],s.cell i=t.cell i):s.op x=t.op x:=by
 cases x with
 | tmp i=>exact h i (by simp [Mg])
 | const v=>rfl
 | global _=>rfl
 | func _=>rfl
theorem Asq {x:Operand} (h:s.op x=t.op x):s.leaf x=t.leaf x:=by unfold St.leaf; rw [h]
theorem Ai2 {x:Operand} (h:s.op x=t.op x):s.conc x=t.conc x:=by unfold St.conc; rw [h]
theorem Awb {x:Operand} {id:Nat} (h:s.leaf x=some (.row id)):∃ i∈Mg [x],id∈Og (s.cell i):=by
 cases x with
 | tmp i=>
  refine ⟨i,by simp [Mg],?_⟩
  unfold St.leaf at h
  simp only [St.op] at h
  split at h
  ·rename_i l hl
   cases h
   rw [hl]
   simp [Og,An5,Vl.ls,Zl,Aek]
  ·cases h
 | const v=>
  unfold St.leaf at h
  simp only [St.op] at h
  split at h
  ·rename_i l hl
   cases h
   unfold Ams at hl
   split at hl
   ·split at hl<;>cases hl
   ·cases hl
   ·cases hl
  ·cases h
 | global _=>cases h
 | func _=>cases h
theorem Age {x:Operand} (h:s.leaf x=t.leaf x) (hr:∀ id,s.leaf x=some (.row id)→s.res id=t.res id):Abp s x=Abp t x:=by
 unfold Abp
 rw [← h]
 split
 ·rename_i id hl
  rw [hr id hl]
 ·rfl
theorem Az3 {x:Operand} (h:s.leaf x=t.leaf x) (hr:∀ id,s.leaf x=some (.row id)→s.res id=t.res id):(s.leaf x).bind s.sl=(t.leaf x).bind t.sl:=by
 rw [← h]
 cases hl:s.leaf x with
 | none=>rfl
 | some l=>
  cases l with
  | row id=>simp only [Option.bind_some,St.sl]; rw [hr id hl]
  | _=>rfl
theorem Aq8 {T:TypeId} {x y:Operand} (h:s.leaf x=t.leaf x) (hr:∀ id,s.leaf x=some (.row id)→s.res id=t.res id) (hy:s.conc y=t.conc y):Xh P s T x y=Xh P t T x y:=by
 unfold Xh
 rw [← h,← hy]
 split
 ·split
  ·rename_i id _ _ _ hl _
   rw [hr _ hl]
  ·rfl
 ·rfl
theorem Awc {T:TypeId} {x:Operand} (h:s.leaf x=t.leaf x) (hr:∀ id,s.leaf x=some (.row id)→s.res id=t.res id):Air P s T x=Air P t T x:=by
 unfold Air
 rw [← h]
 split
 ·split
  ·rename_i id hl
   rw [hr _ hl]
  ·rfl
 ·rfl
end
theorem Agf {s t:St} {T:TypeId} {x y:Operand} (h:s.leaf x=t.leaf x) (hr:∀ id,s.leaf x=some (.row id)→s.res id=t.res id) (hy:s.conc y=t.conc y):Mf P s T x y=Mf P t T x y:=by
 unfold Mf
 rw [Az3 h hr,hy]
theorem Ayk {s t:St} {T:TypeId} {x:Operand} (h:s.leaf x=t.leaf x) (hr:∀ id,s.leaf x=some (.row id)→s.res id=t.res id) (hy:s.conc x=t.conc x):Asa P s T x=Asa P t T x:=by
 unfold Asa
 rw [Az3 h hr,hy]
theorem Awd {s t:St} {X:Option (List Bool×Lf)} {av:AV} {v':St} (e:Nm (lfC t X)=some (av,v')):v'=t∧Nm (lfC s X)=some (av,s):=by
 cases X with
 | none=>cases e
 | some p=>
  simp only [lfC,Nm] at e ⊢
  split at e<;>cases e
  rename_i hq
  exact ⟨rfl,by rw [if_pos hq]⟩
theorem Am3 {s t:St} {X:Option Value} {av:AV} {v':St} (e:Nm (v0 t X)=some (av,v')):v'=t∧Nm (v0 s X)=some (av,s):=by
 cases X with
 | none=>cases e
 | some p=>
  simp only [v0,Nm] at e ⊢
  split at e<;>cases e
  rename_i hq
  exact ⟨rfl,by rw [if_pos hq]⟩
theorem Agg {s t:St}:∀ {l:List Operand},(∀ y∈l,s.conc y=t.conc y)→Y7 s l=Y7 t l
 | [],_=>rfl
 | y::r,h=>by
  simp only [Y7]
  rw [h y (by simp),Agg (fun z hz=>h z (by simp [hz]))]
theorem Aq9 {s t:St} {T:TypeId} {x:Operand} (h:s.leaf x=t.leaf x) (hr:∀ id,s.leaf x=some (.row id)→s.res id=t.res id):Xj P s T x=Xj P t T x:=by
 unfold Xj
 rw [← h]
 split
 ·rename_i hl
  rw [hr _ hl]
 ·rfl
theorem Ayl {sigs:Tb} {nid:Nat} {o:Oper} {t v':St} {av:AV} (hl:Oh o=true) (hc:∀ i∈D1 o,t.cell i=s.cell i) (hr:Aq7 o=false→∀ i∈D1 o,∀ id∈Og (t.cell i),t.res id=s.res id)
  (e:S7 P sigs t nid o=some (av,v')):v'=t∧S7 P sigs s nid o=some (av,s):=by
 obtain ⟨dst,op,type,pos,after,guard⟩:=o
 cases op<;>simp only [Oh] at hl<;>first | (cases hl; done) | skip
 case move x=>
  have hx:t.op x=s.op x:=Agd (fun i hi=>hc i (by simpa [D1,Op.operands] using hi))
  simp only [Bool.not_eq_true'] at hl
  simp only [S7,Of,Af9,Xk,q9,hl,avS,Nm,Ra] at e ⊢
  cases e
  exact ⟨rfl,by rw [hx]; rfl⟩
 case assign x=>
  have hx:t.op x=s.op x:=Agd (fun i hi=>hc i (by simpa [D1,Op.operands] using hi))
  simp only [Bool.not_eq_true'] at hl
  simp only [S7,Of,Af9,Xk,q9,hl,avS,Nm,Ra] at e ⊢
  cases e
  exact ⟨rfl,by rw [hx]; rfl⟩
 case indexAddr T x y=>
  have hs1:Mg [x] ⊆ D1 ⟨dst,.indexAddr T x y,type,pos,after,guard⟩:=fun i hi=>by
   cases x<;>simp [Mg,D1,Op.operands] at hi ⊢
   exact .inl hi
  have hs2:Mg [y] ⊆ D1 ⟨dst,.indexAddr T x y,type,pos,after,guard⟩:=fun i hi=>by
   cases x<;>cases y<;>simp [Mg,D1,Op.operands] at hi ⊢<;>first | exact hi | exact .inr hi
  have hx:=Asq (Agd (s:=t) (t:=s) (x:=x) (fun i hi=>hc i (hs1 hi)))
  have hy:=Ai2 (Agd (s:=t) (t:=s) (x:=y) (fun i hi=>hc i (hs2 hi)))
  have hrr:∀ id,t.leaf x=some (.row id)→t.res id=s.res id:=fun id hid=>by
   obtain ⟨i,h1,h2⟩:=Awb hid
   exact hr rfl i (hs1 h1) id h2
  simp only [S7,Of,Af9,Xk] at e ⊢
  rw [Age hx hrr,Aq8 hx hrr hy,Agf hx hrr hy] at e
  split at e
  ·rename_i hq
   rw [if_pos hq]
   exact Awd e
  ·rename_i hq
   rw [if_neg hq]
   exact Awd e
 case call c=>
  obtain ⟨callee,args,argTypes⟩:=c
  have hcal:callee=.builtin .len:=by
   split at hl
   ·rename_i hq; exact hq
   ·cases hl
  subst hcal
  simp only [S7,Of,Af9,Xk] at e ⊢
  split at e
  ·rename_i x T ha ht
   have ha':args=#[x]:=by apply Array.toList_inj.1; simpa using ha
   subst ha'
   have hs1:Mg [x] ⊆ D1 ⟨dst,.call ⟨.builtin .len,#[x],argTypes⟩,type,pos,after,guard⟩:=fun i hi=>by
    cases x<;>simp [Mg,D1,Op.operands,Call.operands] at hi ⊢
    exact hi
   have hop:=Agd (s:=t) (t:=s) (x:=x) (fun i hi=>hc i (hs1 hi))
   have hx:=Asq hop
   have hrr:∀ id,t.leaf x=some (.row id)→t.res id=s.res id:=fun id hid=>by
    obtain ⟨i,h1,h2⟩:=Awb hid
    exact hr rfl i (hs1 h1) id h2
   have hcc:Nk P t ⟨dst,.call ⟨.builtin .len,#[x],argTypes⟩,type,pos,after,guard⟩=Nk P s ⟨dst,.call ⟨.builtin .len,#[x],argTypes⟩,type,pos,after,guard⟩:=by
    have hcx:=Ai2 hop
    unfold Nk
    have e1:∀ y∈(Op.call ⟨.builtin .len,#[x],argTypes⟩).operands.toList,t.conc y=s.conc y:=fun y hy=>by
     simp [Op.operands,Call.operands] at hy
     rw [hy]; exact hcx
    rw [Agg e1]
    split
    ·have:execOp (fun x=>(t.conc x).getD undef) ⟨dst,.call ⟨.builtin .len,#[x],argTypes⟩,type,pos,after,guard⟩=execOp (fun x=>(s.conc x).getD undef) ⟨dst,.call ⟨.builtin .len,#[x],argTypes⟩,type,pos,after,guard⟩:=
      execOp_congr _ (fun cs b q=>by cases q) (fun y hy=>by show (t.conc y).getD undef=(s.conc y).getD undef; rw [e1 y (Array.mem_toList_iff.2 hy)])
     rw [this]
    ·rfl
   split at e
   ·rename_i hsl
    rw [if_pos hsl]
    rw [Age hx hrr,Awc hx hrr,Ayk hx hrr (Ai2 hop)] at e
    split at e
    ·rename_i hq
     rw [if_pos hq]
     exact Am3 e
    ·rename_i hq
     rw [if_neg hq]
     exact Am3 e
   ·rename_i hsl
    rw [if_neg hsl]
    rw [hcc,Aq9 hx hrr] at e
    split at e
    ·rename_i hq
     rw [if_pos hq]
     exact Am3 e
    ·rename_i hq
     rw [if_neg hq]
     exact Am3 e
  ·cases e
theorem A3n {sigs:Tb} (hs:A1 P sigs) (h:B5 n B Iq s g a w) {nid:Nat} {o:Oper} {av:AV} {v':St} (e:Acx P sigs s nid o=some (av,v')):
  Od P n B Iq s g a w o av (if Oh o then s else s.lay v' (S9 s o++Oa nid)):=by
 unfold Acx at e
 dsimp only at e
 split at e
 ·rename_i hfr
  split at e
  ·rename_i hcl
   obtain ⟨p,e1,e⟩:=A6 e
   split at e
   ·rename_i h1
    split at e<;>cases e
    rename_i h2
    cases hlt:Oh o with
    | true=>
     refine s6 hs h (Ayl (t:=s.view (D1 o) (S9 s o)) hlt (fun i hi=>?_) (fun hm i hi id hid=>?_) e1).2
     ·simp [St.view,Co.2 hi]
     ·have:(s.view (D1 o) (S9 s o)).cell i=s.cell i:=by simp [St.view,Co.2 hi]
      rw [this] at hid
      simp [St.view,Co.2 (An9 hm i hi id hid)]
    | false=>
     have c1:=Asp hcl
     have c2:=Asp h2
     have hmv:Aq7 o=false:=by
      cases hq:Aq7 o with
      | false=>rfl
      | true=>rw [A3k hq] at hlt; cases hlt
     rw [hmv,Bool.false_or] at h1
     have hV:=A3m h (sl:=D1 o) (ids:=S9 s o) (An9 hmv) c1.1 (c1.2 hlt)
     intro K Q hK
     refine s6 hs hV e1 K Q fun v gv' w' k1 k2 k3=>?_
     obtain ⟨g',q1,q2,q3⟩:=A71 h (Aem hfr) k1 k2 (Ai1.1 h1) c2.1 (c2.2 hlt)
     exact hK v g' w' q1 q2 (q3 v k3)
   ·cases e
  ·cases e
 ·cases e
end
end
section
def Aym (s:St) (ops:Array Oper) (j:Nat):Option (Option Bool):=match ops[j]? with
 | some o=>match o.dst with
  | some d=>match s.cell d with
   | .vl (.lf (.c (.bool b)))=>some (some b)
   | .tp []=>some none
   | _=>none
  | none=>none
 | none=>none
def Nb (s:St) (ops:Array Oper) (o:Oper):Option Bool:=match o.guard with
 | none=>some true
 | some (j,want)=>match Aym s ops j with
  | some (some b)=>some (bif b then want else !want)
  | some none=>some false
  | none=>none
def Ara (P:Program) (o:Oper):Bool:=match o.op with
 | .move x=>!Ako x
 | .assign x=>!Ako x
 | .pick _ _ _=>true
 | .build _ _=>true
 | .load _ _=>true
 | .nilCheck _=>true
 | .binOp _ _ _ _ _=>true
 | .unOp _ _ _=>true
 | .convert _ U _=>!Asm P U
 | .slice T _ _ _ _=>A3e P T
 | .fieldAddr _ _ _=>true
 | .field _ _ _=>true
 | .indexAddr _ _ _=>true
 | .index _ _ _=>true
 | .extract _ _=>true
 | .call c=>match c.callee with
  | .builtin .len=>true
  | .builtin .min=>true
  | .builtin .max=>true
  | _=>false
 | _=>false
section
variable {P:Program} {n B:Nat} {Iq:List Nat} {s:St} {g:Gh} {a:Act} {w:World}
theorem A5z {nid:Nat} {o:Oper} {av:AV} {s':St} (hro:Ara P o=true) (e:Nm (Xk P s nid o)=some (av,s')):s'=s:=by
 obtain ⟨dst,op,type,pos,after,guard⟩:=o
 have v0':∀ {x:Option Value},Nm (v0 s x)=some (av,s')→s'=s:=fun e=>by obtain ⟨_,_,q⟩:=Zk e; cases q; rfl
 have vC':∀ {x:Option (List Bool×Value)},Nm (vC s x)=some (av,s')→s'=s:=fun e=>by obtain ⟨_,_,q⟩:=Aej e; cases q; rfl
 have vl':∀ {x:Option Vl},Nm (vl0 s x)=some (av,s')→s'=s:=fun e=>by obtain ⟨_,_,q⟩:=Amz e; cases q; rfl
 have av':∀ {x:Option AV},Nm (av0 s x)=some (av,s')→s'=s:=fun e=>by obtain ⟨_,_,q⟩:=Abr e; cases q; rfl
 have lf':∀ {x:Option (List Bool×Lf)},Nm (lfC s x)=some (av,s')→s'=s:=fun e=>by obtain ⟨_,_,q⟩:=Amy e; cases q; rfl
 cases op<;>simp only [Xk,Ara] at e hro<;>first | (cases hro; done) | skip
 case move x=>
  have:=Am0 e
  unfold q9 at this
  split at this
  ·rename_i h; rw [h] at hro; cases hro
  ·cases this; rfl
 case assign x=>
  have:=Am0 e
  unfold q9 at this
  split at this
  ·rename_i h; rw [h] at hro; cases hro
  ·cases this; rfl
 case pick=>exact av' e
 case build=>exact vl' e
 case load=>
  split at e
  ·exact lf' e
  ·exact vl' e
 case nilCheck=>exact av' e
 case binOp op T x y U=>
  split at e
  ·split at e
   ·exact vC' e
   ·exact v0' e
  ·exact vC' e
  ·exact vC' e
  ·exact vC' e
  ·split at e<;>exact v0' e
  ·split at e<;>exact v0' e
  ·exact v0' e
 case unOp=>exact v0' e
 case convert T U x=>
  split at e
  ·exact v0' e
  ·split at e
   ·rename_i q
    rw [q] at hro
    cases hro
   ·exact v0' e
 case slice=>
  rw [if_pos hro] at e
  exact vC' e
 case fieldAddr=>
  obtain ⟨l,s1,e1,e2⟩:=Vm e
  cases e2
  obtain ⟨l',e3,e4⟩:=Option.map_eq_some_iff.1 e1
  cases e4
  rfl
 case field=>exact vl' e
 case indexAddr=>split at e<;>exact lf' e
 case index=>exact vC' e
 case extract=>exact av' e
 case call c=>
  obtain ⟨callee,args,argTypes⟩:=c
  simp only at e hro
  split at hro
  ·simp only at e
   split at e
   ·split at e
    ·split at e<;>exact v0' e
    ·split at e<;>exact v0' e
   ·cases e
  ·exact v0' e
  ·exact v0' e
  ·cases hro
theorem A50 {o:Oper} (hro:Ara P o=true):Of o=none:=by
 unfold Of
 unfold Ara at hro
 split
 ·rename_i c hop
  rw [hop] at hro
  simp only at hro
  split
  ·rename_i f hf
   rw [hf] at hro
   cases hro
  ·rfl
 ·rfl
theorem A72 {o:Oper} (hro:Ara P o=true):Af9 s o=none:=by
 unfold Af9
 unfold Ara at hro
 split
 ·rename_i c hop
  rw [hop] at hro
  simp only at hro
  split
  ·rename_i t hf
   rw [hf] at hro
   cases hro
  ·rfl
 ·rfl
theorem A3o (h:B5 n B Iq s g a w) {ops:Array Oper} {j:Nat} {r:Option Bool} (e:Aym s ops j=some r):yielded ops a.tmps j=r:=by
 unfold Aym at e
 unfold yielded
 split at e
 ·rename_i o ho
  split at e
  ·rename_i d hd
   have k:=h.cell d
   rw [ho]
   simp only [Option.bind_some,hd]
   split at e
   ·rename_i b hb
    cases e
    rw [hb] at k
    have k1:a.tmps.getD d undef=.bool b:=k.1
    rw [Array.getD_eq_getD_getElem?] at k1
    cases hq:a.tmps[d]? with
    | none=>rw [hq] at k1; simp [undef] at k1
    | some v=>rw [hq] at k1; simp at k1; rw [k1]
   ·rename_i hb
    cases e
    rw [hb] at k
    obtain ⟨us,hu,hsz,_⟩:=k
    have:us=#[]:=by apply Array.eq_empty_of_size_eq_zero; simpa using hsz
    subst this
    rw [Array.getD_eq_getD_getElem?] at hu
    cases hq:a.tmps[d]? with
    | none=>rfl
    | some v=>rw [hq] at hu; simp at hu; rw [hu]
   ·cases e
  ·cases e
 ·cases e
theorem P4 (h:B5 n B Iq s g a w) {ops:Array Oper} {o:Oper} {r:Bool} (e:Nb s ops o=some r):Region.wanted o (yielded ops a.tmps)=r:=by
 unfold Nb at e
 unfold Region.wanted
 split at e
 ·rename_i hg
  rw [hg]
  cases e
  rfl
 ·rename_i j want hg
  rw [hg]
  simp only
  split at e
  ·rename_i b hb
   rw [A3o h hb]
   cases e
   cases b<;>cases want<;>rfl
  ·rename_i hb
   rw [A3o h hb]
   cases e
   rfl
  ·cases e
end
end
section
structure Qy where
 o:Oper
 nid:Nat
 run:Bool
 ids:List Nat
 av:AV
 res:Nat→Qp
 wr:List Nat
def Qy.quiet (P:Program) (e:Qy):Bool:=!e.run || Ara P e.o
def Qy.app (P:Program) (n:Nat) (e:Qy) (s:St):St:=St.put n (if e.quiet P then s else ⟨s.cell,fun id=>if Lm e.wr id then e.res id else s.res id⟩) e.o.dst e.av
def Awe (ops:Array Oper) (o:Oper):List Nat:=match o.guard with
 | some (j,_)=>match ops[j]? with
  | some oj=>match oj.dst with
   | some d=>[d]
   | none=>[]
  | none=>[]
 | none=>[]
def Qy.looks (ops:Array Oper) (e:Qy):List Nat:=(if e.run then D1 e.o else [])++Awe ops e.o
def A3p:List Md→Bool
 | []=>true
 | .rd _::r=>A3p r
 | _=>false
def wrO (T:Tb) (v:St) (nid:Nat) (o:Oper) (m:List Nat):List Nat:=match o.op with
 | .store _ x _=>(match v.leaf x with
  | some (.ptr id _)=>if Lm m id then [id] else m
  | _=>m)
 | .call _=>(match Of o with
  | some (f,_)=>(match T.sd f with
   | some sd=>if A3p sd.sg.ps&&(Jj sd.sg.rs&&(Oc sd.sg.ps&&Nat.ble (Lo sd.sg.rs) 4)) then Oa nid else m
   | none=>m)
  | none=>m)
 | _=>m
def s8 (T:Tb) (s:St) (nid:Nat) (o:Oper) (av:AV) (v:St):Qy:=⟨o,nid,true,S9 s o++Oa nid,av,v.res,wrO T (s.view (D1 o) (S9 s o)) nid o (S9 s o++Oa nid)⟩
def Agh (nid:Nat) (o:Oper):Qy:=⟨o,nid,false,[],.tp [],fun _=>.unborn,[]⟩
def A1r (P:Program) (sigs:Tb) (ops:Array Oper) (s:St) (e:Qy):Prop:=
 (Nb s ops e.o=some true∧∃ av v,Acx P sigs s e.nid e.o=some (av,v)∧e=s8 sigs s e.nid e.o av v)∨(Nb s ops e.o=some false∧e=Agh e.nid e.o)
def Aen (P:Program) (sigs:Tb) (ops:Array Oper) (n:Nat):List Qy→St→Prop
 | [],_=>True
 | e::r,s=>A1r P sigs ops s e∧Aen P sigs ops n r (e.app P n s)
def Zn (P:Program) (n:Nat) (D:Nat→Bool):Nat→List Qy→St→St
 | _,[],s=>s
 | i,e::r,s=>Zn P n D (i + 1) r (if D i then e.app P n s else s)
def Aui (o:Oper) (l:List Nat):Bool:=match o.dst with
 | some d=>Lm l d
 | none=>false
def Az4 (o o':Oper):Bool:=match o.dst,o'.dst with
 | some d,some d'=>Nat.beq d d'
 | _,_=>false
def Aoa (l m:List Nat):Bool:=match l with
 | []=>false
 | i::r=>Lm m i || Aoa r m
def Oi (P:Program) (ops:Array Oper) (e f:Qy):Bool:=
 !Aui e.o (f.looks ops)&&!Aui f.o (e.looks ops)&&!Az4 e.o f.o&&((e.quiet P || !Aoa e.wr f.ids)&&(f.quiet P || !Aoa f.wr e.ids)&&(e.quiet P || f.quiet P || !Aoa e.wr f.wr))
def Vo (o:Oper):List Nat:=(o.after.toList.filter fun e=>Region.binds .any e).map (·.on)
def Akt (ancs:List Nat):List Nat→Nat
 | []=>0
 | p::r=>((1 <<< p) ||| (ancs.getD p 0)) ||| Akt ancs r
def Aob (P:Program) (ops:Array Oper) (A:Nat) (e:Qy):Nat→List Qy→Bool
 | _,[]=>true
 | k,d::r=>(A.testBit k || Oi P ops d e)&&Aob P ops A e (k + 1) r
def Awf (i:Nat):List Nat→Bool
 | []=>true
 | p::r=>Nat.blt p i&&Awf i r
def A1s (P:Program) (ops:Array Oper):Nat→List Qy→List Nat→List Qy→Bool
 | _,_,_,[]=>true
 | i,done,ancs,e::r=>Awf i (Vo e.o)&&(Aob P ops (Akt ancs (Vo e.o)) e 0 done&&A1s P ops (i + 1) (done++[e]) (ancs++[Akt ancs (Vo e.o)]) r)
section
variable {P:Program} {n B:Nat} {Iq:List Nat} {sigs:Tb} {ops:Array Oper}
theorem Ai3 {l m:List Nat}:Aoa l m=false↔∀ i∈l,i ∉ m:=by
 induction l with
 | nil=>simp [Aoa]
 | cons j r ih=>
  simp only [Aoa,Bool.or_eq_false_iff,ih,List.forall_mem_cons]
  constructor
  ·rintro ⟨h1,h2⟩
   exact ⟨fun q=>(by rw [Co.2 q] at h1; cases h1),h2⟩
  ·rintro ⟨h1,h2⟩
   refine ⟨?_,h2⟩
   cases hq:Lm m j
   ·rfl
   ·exact absurd (Co.1 hq) h1
theorem Asr {i:Nat} {l:List Nat}:Awf i l=true↔∀ p∈l,p < i:=by
 induction l with
 | nil=>simp [Awf]
 | cons j r ih=>simp [Awf,ih,Nat.blt_eq]
def Ass (P:Program) (ops:Array Oper) (e' e:Qy):Prop:=(∀ d,e'.o.dst=some d→d ∉ e.looks ops)∧(e'.quiet P=false→∀ id∈e'.wr,id ∉ e.ids)
theorem Agi {o:Oper} {l:List Nat} (h:Aui o l=false):∀ d,o.dst=some d→d ∉ l:=by
 intro d hd q
 unfold Aui at h
 rw [hd] at h
 simp only at h
 rw [Co.2 q] at h
 cases h
theorem Agj {e f:Qy} (h:Oi P ops e f=true):Ass P ops e f∧Ass P ops f e:=by
 simp only [Oi,Bool.and_eq_true,Bool.not_eq_true',Bool.or_eq_true] at h
 obtain ⟨⟨⟨h1,h2⟩,h3⟩,⟨h4,h5⟩,_⟩:=h
 refine ⟨⟨Agi h1,fun q id hid=>?_⟩,⟨Agi h2,fun q id hid=>?_⟩⟩
 ·rcases h4 with h4 | h4
  ·rw [h4] at q; cases q
  ·exact Ai3.1 h4 id hid
 ·rcases h5 with h5 | h5
  ·rw [h5] at q; cases q
  ·exact Ai3.1 h5 id hid
theorem A3q (s:St) (d:Option Tmp) (av:AV) (x:Nat):(s.put n d av).cell x=if (d=some x∧Nat.blt x n=true) then av else s.cell x:=by
 cases d with
 | none=>simp [St.put]
 | some d=>
  unfold St.put
  simp only
  by_cases q:x=d
  ·subst q
   by_cases hn:Nat.blt x n=true
   ·simp [hn,St.setCell]
   ·simp [hn]
  ·have:¬ (some d=some x∧Nat.blt x n=true):=fun h=>q (Option.some.inj h.1).symm
   rw [if_neg this]
   split
   ·simp [St.setCell,Ax _ _ q]
   ·rfl
theorem Ta (e:Qy) (s:St) (x:Nat):(e.app P n s).cell x=if (e.o.dst=some x∧Nat.blt x n=true) then e.av else s.cell x:=by
 unfold Qy.app
 rw [A3q]
 split
 ·rfl
 ·split<;>rfl
theorem Zo (e:Qy) (s:St) (id:Nat):(e.app P n s).res id=if e.quiet P=false∧id∈e.wr then e.res id else s.res id:=by
 unfold Qy.app
 rw [Am1]
 by_cases q:e.quiet P=true
 ·simp [q]
 ·have q:e.quiet P=false:=by simpa using q
  simp only [q,Bool.false_eq_true,if_false,true_and]
  by_cases hm:id∈e.wr
  ·simp [hm,Co.2 hm]
  ·have:Lm e.wr id=false:=by
    cases hq:Lm e.wr id
    ·rfl
    ·exact absurd (Co.1 hq) hm
   simp [hm,this]
theorem St.ext' {s t:St} (h1:∀ i,s.cell i=t.cell i) (h2:∀ id,s.res id=t.res id):s=t:=by
 obtain ⟨c,r⟩:=s
 obtain ⟨c',r'⟩:=t
 congr
 ·exact funext h1
 ·exact funext h2
theorem A3r {e f:Qy} (h:Oi P ops e f=true) (s:St):f.app P n (e.app P n s)=e.app P n (f.app P n s):=by
 have hd:∀ d,e.o.dst=some d→f.o.dst≠some d:=by
  intro d h1 h2
  simp only [Oi,Bool.and_eq_true,Bool.not_eq_true'] at h
  have:=h.1.2
  unfold Az4 at this
  rw [h1,h2] at this
  simp at this
 have hr:∀ id,e.quiet P=false→id∈e.wr→¬ (f.quiet P=false∧id∈f.wr):=fun id q1 q2 q3=>by
  simp only [Oi,Bool.and_eq_true,Bool.not_eq_true',Bool.or_eq_true] at h
  rcases h.2.2 with (h4 | h4) | h4
  ·rw [h4] at q1; cases q1
  ·rw [h4] at q3; cases q3.1
  ·exact Ai3.1 h4 id q2 q3.2
 refine St.ext' (fun i=>?_) (fun id=>?_)
 ·rw [Ta,Ta,Ta,Ta]
  by_cases h1:e.o.dst=some i∧Nat.blt i n=true
  ·have h2:¬ (f.o.dst=some i∧Nat.blt i n=true):=fun q=>hd i h1.1 q.1
   rw [if_neg h2,if_pos h1,if_pos h1]
  ·rw [if_neg h1,if_neg h1]
 ·rw [Zo,Zo,Zo,Zo]
  by_cases h1:e.quiet P=false∧id∈e.wr
  ·rw [if_neg (hr id h1.1 h1.2),if_pos h1,if_pos h1]
  ·rw [if_neg h1,if_neg h1]
def Pq (s t:St) (L I:List Nat):Prop:=(∀ x∈L,s.cell x=t.cell x)∧∀ id∈I,s.res id=t.res id
theorem Pq.app {s t:St} {L I:List Nat} (h:Pq s t L I) (e:Qy):Pq (e.app P n s) (e.app P n t) L I:=by
 refine ⟨fun x hx=>?_,fun id hid=>?_⟩
 ·rw [Ta,Ta,h.1 x hx]
 ·rw [Zo,Zo,h.2 id hid]
theorem Ass.agree {e' e:Qy} (h:Ass P ops e' e) (s:St):Pq (e'.app P n s) s (e.looks ops) e.ids:=by
 refine ⟨fun x hx=>?_,fun id hid=>?_⟩
 ·rw [Ta,if_neg (fun q=>h.1 x q.1 hx)]
 ·rw [Zo,if_neg (fun q=>h.2 q.1 id q.2 hid)]
theorem Pq.trans {s t u:St} {L I:List Nat} (h:Pq s t L I) (k:Pq t u L I):Pq s u L I:=⟨fun x hx=>(h.1 x hx).trans (k.1 x hx),fun x hx=>(h.2 x hx).trans (k.2 x hx)⟩
theorem Pq.symm {s t:St} {L I:List Nat} (h:Pq s t L I):Pq t s L I:=⟨fun x hx=>(h.1 x hx).symm,fun x hx=>(h.2 x hx).symm⟩
theorem a7 {s t:St}:∀ {sl:List Nat},(∀ x∈sl,s.cell x=t.cell x)→In s sl=In t sl
 | [],_=>rfl
 | i::r,h=>by
  simp only [In]
  rw [h i (by simp),a7 (fun x hx=>h x (by simp [hx]))]
theorem Qs {s t:St}:∀ {l:List Nat},(∀ x∈l,s.res x=t.res x)→Km s l=Km t l
 | [],_=>rfl
 | i::r,h=>by
  simp only [Km]
  rw [h i (by simp),Qs (fun x hx=>h x (by simp [hx]))]
theorem Aku {s t:St} {sl:List Nat} (h1:∀ x∈sl,s.cell x=t.cell x) (h2:∀ id∈Agb s sl,s.res id=t.res id):Agb t sl=Agb s sl:=by
 unfold Agb at h2 ⊢
 dsimp only at h2 ⊢
 rw [← a7 h1]
 have e1:Km t (In s sl)=Km s (In s sl):=(Qs (fun x hx=>h2 x (List.mem_append_left _ (List.mem_append_left _ hx)))).symm
 rw [e1]
 have e2:Km t (In s sl++Km s (In s sl))=Km s (In s sl++Km s (In s sl)):=(Qs (fun x hx=>h2 x (List.mem_append_left _ hx))).symm
 rw [e2]
theorem Zp {s t:St}:∀ {l:List Nat},(∀ x∈l,s.res x=t.res x)→Ael s l=Ael t l
 | [],_=>rfl
 | i::r,h=>by
  simp only [Ael]
  rw [h i (by simp),Zp (fun x hx=>h x (by simp [hx]))]
theorem Aoc {s t:St} {o:Oper} (h1:∀ x∈D1 o,s.cell x=t.cell x) (h2:∀ id∈S9 s o,s.res id=t.res id):S9 t o=S9 s o:=by
 unfold S9 at h2 ⊢
 by_cases hm:Aq7 o=true
 ·rw [if_pos hm,if_pos hm]
 rw [if_neg hm] at h2
 rw [if_neg hm,if_neg hm]
 split
 ·rename_i hq
  rw [if_pos hq] at h2
  exact Aku h1 h2
 ·rename_i hq
  rw [if_neg hq] at h2
  have h3:∀ id∈Agb s (D1 o),s.res id=t.res id:=fun id q=>h2 id (List.mem_append_left _ q)
  rw [Aku h1 h3,← Zp h3]
theorem Arb {s t:St} {o:Oper} {m:List Nat} (h:∀ id∈m,s.res id=t.res id):Sr o t m=Sr o s m:=by
 unfold Sr
 rw [Qs h,Zp h]
theorem Agk {s t:St}:∀ {k nid:Nat},(∀ id,nid≤id→id < nid + k→s.res id=t.res id)→P2 t nid k=P2 s nid k
 | 0,_,_=>rfl
 | k + 1,nid,h=>by
  simp only [P2]
  rw [h nid (Nat.le_refl _) (by omega),Agk (fun id q1 q2=>h id (by omega) (by omega))]
theorem Aod {s t:St} {sl ids:List Nat} (h1:∀ x∈sl,s.cell x=t.cell x) (h2:∀ id∈ids,s.res id=t.res id):t.view sl ids=s.view sl ids:=by
 refine St.ext' (fun i=>?_) (fun id=>?_)
 ·show (if Lm sl i then t.cell i else .dead)=(if Lm sl i then s.cell i else .dead)
  split
  ·rename_i q; rw [h1 i (Co.1 q)]
  ·rfl
 ·show (if Lm ids id then t.res id else .unborn)=(if Lm ids id then s.res id else .unborn)
  split
  ·rename_i q; rw [h2 id (Co.1 q)]
  ·rfl
theorem Awg {s t:St} {nid:Nat} {o:Oper} (h1:∀ x∈D1 o,s.cell x=t.cell x) (h2:∀ id∈S9 s o++Oa nid,s.res id=t.res id):Acx P sigs t nid o=Acx P sigs s nid o:=by
 have h3:∀ id∈S9 s o,s.res id=t.res id:=fun id q=>h2 id (List.mem_append_left _ q)
 unfold Acx
 dsimp only
 rw [Aoc h1 h3,Aod h1 h3,← Arb h3,Agk (s:=s) (t:=t) (fun id q1 q2=>h2 id (List.mem_append_right _ (by
  simp only [Oa,List.mem_cons,List.not_mem_nil,or_false,An7] at q2 ⊢
  omega)))]
theorem Ayn {s t:St} {o:Oper} {j:Nat} {want:Bool} (hg:o.guard=some (j,want)) (h:∀ x∈Awe ops o,s.cell x=t.cell x):Aym t ops j=Aym s ops j:=by
 unfold Awe at h
 rw [hg] at h
 simp only at h
 unfold Aym
 split
 ·rename_i oj hoj
  rw [hoj] at h
  simp only at h
  split
  ·rename_i d hd
   rw [hd] at h
   simp only [List.mem_cons,List.not_mem_nil,or_false,forall_eq] at h
   rw [h]
  ·rfl
 ·rfl
theorem Acz {s t:St} {o:Oper} (h:∀ x∈Awe ops o,s.cell x=t.cell x):Nb t ops o=Nb s ops o:=by
 unfold Nb
 split
 ·rfl
 ·rename_i j want hg
  rw [Ayn hg h]
theorem A1r.local {s t:St} {e:Qy} (h:A1r P sigs ops s e) (ha:Pq s t (e.looks ops) e.ids):A1r P sigs ops t e:=by
 have hg:∀ x∈Awe ops e.o,s.cell x=t.cell x:=fun x hx=>ha.1 x (List.mem_append_right _ hx)
 rcases h with ⟨h1,av,v,h2,h3⟩ | ⟨h1,h2⟩
 ·left
  have hrun:e.run=true:=by rw [h3]; rfl
  have hids:e.ids=S9 s e.o++Oa e.nid:=by rw [h3]; rfl
  have c1:∀ x∈D1 e.o,s.cell x=t.cell x:=fun x hx=>ha.1 x (List.mem_append_left _ (by rw [hrun]; exact hx))
  have c2:∀ id∈S9 s e.o++Oa e.nid,s.res id=t.res id:=fun id hid=>ha.2 id (by rw [hids]; exact hid)
  refine ⟨by rw [Acz hg]; exact h1,av,v,by rw [Awg c1 c2]; exact h2,?_⟩
  have:s8 sigs t e.nid e.o av v=s8 sigs s e.nid e.o av v:=by
   unfold s8
   rw [Aoc c1 (fun id hid=>c2 id (List.mem_append_left _ hid)),Aod c1 (fun id hid=>c2 id (List.mem_append_left _ hid))]
  rw [this]
  exact h3
 ·exact .inr ⟨by rw [Acz hg]; exact h1,h2⟩
theorem Aoe {D:Nat→Bool} {e:Qy}:∀ {tr:List Qy} {k:Nat} {s:St},(∀ j f,tr[j]? = some f→D (k + j)=true→Oi P ops e f=true)→Zn P n D k tr (e.app P n s)=e.app P n (Zn P n D k tr s)
 | [],_,_,_=>rfl
 | f::r,k,s,h=>by
  simp only [Zn]
  have h':∀ j f',r[j]? = some f'→D (k + 1 + j)=true→Oi P ops e f'=true:=fun j f' h1 h2=>h (j + 1) f' (by simpa using h1) (by rw [← h2]; congr 1; omega)
  split
  ·rename_i hD
   rw [A3r (h 0 f rfl hD),Aoe h']
  ·exact Aoe h'
theorem Ai4 {D D':Nat→Bool}:∀ {tr:List Qy} {k:Nat} {s:St},(∀ j,j < tr.length→D (k + j)=D' (k + j))→Zn P n D k tr s=Zn P n D' k tr s
 | [],_,_,_=>rfl
 | f::r,k,s,h=>by
  simp only [Zn]
  have h0:D k=D' k:=h 0 (by simp)
  rw [h0]
  exact Ai4 (fun j hj=>by have:=h (j + 1) (by simpa using hj); rw [show k + 1 + j=k + (j + 1) by omega]; exact this)
theorem Az5 {D D':Nat→Bool} {e:Qy}:∀ {tr:List Qy} {k i:Nat} {s:St},tr[i]? = some e→D (k + i)=false→D' (k + i)=true→(∀ j,j≠i→D' (k + j)=D (k + j))→
  (∀ j f,i < j→tr[j]? = some f→D (k + j)=true→Oi P ops e f=true)→Zn P n D' k tr s=e.app P n (Zn P n D k tr s)
 | [],_,_,_,h,_,_,_,_=>by simp at h
 | f::r,k,0,s,h,h1,h2,h3,h4=>by
  simp at h
  subst h
  simp only [Zn]
  have h1':D k=false:=h1
  have h2':D' k=true:=h2
  rw [h1',h2']
  simp only [if_true,Bool.false_eq_true,if_false]
  rw [Ai4 (D:=D') (D':=D) (fun j hj=>by have:=h3 (j + 1) (by omega); rw [show k + 1 + j=k + (j + 1) by omega]; exact this)]
  exact Aoe (fun j f' q1 q2=>h4 (j + 1) f' (by omega) (by simpa using q1) (by rw [← q2]; congr 1; omega))
 | f::r,k,i + 1,s,h,h1,h2,h3,h4=>by
  simp only [Zn]
  have h0:D' k=D k:=h3 0 (by omega)
  rw [h0]
  refine Az5 (i:=i) (by simpa using h) (by rw [← h1]; congr 1; omega) (by rw [← h2]; congr 1; omega) (fun j hj=>?_) (fun j f' q1 q2 q3=>?_)
  ·have:=h3 (j + 1) (by omega)
   rw [show k + 1 + j=k + (j + 1) by omega]
   exact this
  ·exact h4 (j + 1) f' (by omega) (by simpa using q2) (by rw [← q3]; congr 1; omega)
theorem Ai5 {D:Nat→Bool} {e:Qy}:∀ {tr:List Qy} {k i:Nat} {s t:St},Pq s t (e.looks ops) e.ids→
  (∀ j f,tr[j]? = some f→j < i→D (k + j)=false→Ass P ops f e)→(∀ j f,tr[j]? = some f→i≤j→D (k + j)=true→Ass P ops f e)→
  Pq (Zn P n D k tr s) (Zn P n (fun _=>true) k (tr.take i) t) (e.looks ops) e.ids
 | [],k,i,s,t,h,_,_=>by simpa [Zn] using h
 | f::r,k,0,s,t,h,h1,h2=>by
  simp only [Zn,List.take_zero]
  have ih:∀ s',Pq s' t (e.looks ops) e.ids→Pq (Zn P n D (k + 1) r s') t (e.looks ops) e.ids:=fun s' q=>by
   have:=Ai5 (D:=D) (tr:=r) (k:=k + 1) (i:=0) q (fun j f' q1 q2=>by omega) (fun j f' q1 _ q3=>h2 (j + 1) f' (by simpa using q1) (by omega) (by rw [← q3]; congr 1; omega))
   simpa [Zn] using this
  split
  ·rename_i hD
   exact ih _ (((h2 0 f rfl (by omega) hD).agree s).trans h)
  ·exact ih _ h
 | f::r,k,i + 1,s,t,h,h1,h2=>by
  simp only [Zn,List.take_succ_cons,if_true]
  have ih:∀ s' t',Pq s' t' (e.looks ops) e.ids→Pq (Zn P n D (k + 1) r s') (Zn P n (fun _=>true) (k + 1) (r.take i) t') (e.looks ops) e.ids:=fun s' t' q=>
   Ai5 (D:=D) q (fun j f' q1 q2 q3=>h1 (j + 1) f' (by simpa using q1) (by omega) (by rw [← q3]; congr 1; omega)) (fun j f' q1 q2 q3=>h2 (j + 1) f' (by simpa using q1) (by omega) (by rw [← q3]; congr 1; omega))
  split
  ·exact ih _ _ (h.app f)
  ·rename_i hD
   have hD:D k=false:=by simpa using hD
   exact ih _ _ (h.trans ((h1 0 f rfl (by omega) hD).agree t).symm)
theorem Aen.get:∀ {tr:List Qy} {k i:Nat} {s:St} {e:Qy},Aen P sigs ops n tr s→tr[i]? = some e→A1r P sigs ops (Zn P n (fun _=>true) k (tr.take i) s) e
 | [],_,_,_,_,_,h=>by simp at h
 | f::r,k,0,s,e,h,hi=>by
  simp at hi
  subst hi
  simpa [Zn] using h.1
 | f::r,k,i + 1,s,e,h,hi=>by
  simp only [List.take_succ_cons,Zn,if_true]
  exact Aen.get h.2 (by simpa using hi)
def A3s (tr:List Qy) (D:Nat→Prop):Prop:=∀ k e,tr[k]? = some e→D k→∀ p∈Vo e.o,D p
def Bef (tr:List Qy) (i:Nat) (e:Qy):Prop:=∀ D,A3s tr D→(∀ p∈Vo e.o,D p)→D i
theorem Ast {ancs:List Nat} {i:Nat}:∀ {ps:List Nat},(Akt ancs ps).testBit i=true→∃ p∈ps,p=i∨(ancs.getD p 0).testBit i=true
 | [],h=>by simp [Akt] at h
 | p::r,h=>by
  simp only [Akt,Nat.testBit_or,Bool.or_eq_true] at h
  rcases h with (h | h) | h
  ·refine ⟨p,by simp,.inl ?_⟩
   rw [Nat.one_shiftLeft,Nat.testBit_two_pow] at h
   simpa using h
  ·exact ⟨p,by simp,.inr h⟩
  ·obtain ⟨q,h1,h2⟩:=Ast h
   exact ⟨q,by simp [h1],h2⟩
theorem Aof {A:Nat} {e:Qy}:∀ {l:List Qy} {k:Nat},Aob P ops A e k l=true→∀ j f,l[j]? = some f→A.testBit (k + j)=true∨Oi P ops f e=true
 | [],_,_,j,f,hj=>by simp at hj
 | d::r,k,h,0,f,hj=>by
  simp at hj
  subst hj
  simp only [Aob,Bool.and_eq_true,Bool.or_eq_true] at h
  exact h.1
 | d::r,k,h,j + 1,f,hj=>by
  simp only [Aob,Bool.and_eq_true,Bool.or_eq_true] at h
  have:=Aof h.2 j f (by simpa using hj)
  rw [show k + (j + 1)=k + 1 + j by omega]
  exact this
theorem Awh {tr:List Qy}:∀ {rest done:List Qy} {ancs:List Nat},tr=done++rest→ancs.length=done.length→A1s P ops done.length done ancs rest=true→
  (∀ k e x,done[k]? = some e→(ancs.getD k 0).testBit x=true→Bef tr x e)→
  (∀ i j e f,tr[i]? = some e→tr[j]? = some f→i < j→j < done.length→Bef tr i f∨Oi P ops e f=true)→
  (∀ j f,tr[j]? = some f→j < done.length→∀ p∈Vo f.o,p < j)→
  (∀ i j e f,tr[i]? = some e→tr[j]? = some f→i < j→Bef tr i f∨Oi P ops e f=true)∧(∀ j f,tr[j]? = some f→∀ p∈Vo f.o,p < j)
 | [],done,ancs,h,_,_,_,h3,h4=>by
  subst h
  rw [List.append_nil]
  refine ⟨fun i j e f h1 h2 h5=>?_,fun j f h1=>?_⟩
  ·have:=h3 i j e f (by rw [List.append_nil]; exact h1) (by rw [List.append_nil]; exact h2) h5 (List.getElem?_eq_some_iff.1 h2).1
   rwa [List.append_nil] at this
  ·exact h4 j f (by rw [List.append_nil]; exact h1) (List.getElem?_eq_some_iff.1 h1).1
 | e::rest,done,ancs,h,hl,hok,h2,h3,h4=>by
  simp only [A1s,Bool.and_eq_true] at hok
  obtain ⟨k1,k2,k3⟩:=hok
  have hget:tr[done.length]? = some e:=by rw [h]; simp
  have hbef:∀ x,(Akt ancs (Vo e.o)).testBit x=true→Bef tr x e:=by
   intro x hx D hD hp
   obtain ⟨p,q1,q2⟩:=Ast hx
   rcases q2 with rfl | q2
   ·exact hp _ q1
   ·have hpl:p < done.length:=Asr.1 k1 p q1
    have hpe:done[p]? = some done[p]:=List.getElem?_eq_getElem hpl
    have hpt:tr[p]? = some done[p]:=by rw [h,List.getElem?_append_left hpl]; exact hpe
    exact h2 p _ x hpe q2 D hD (hD p _ hpt (hp p q1))
  have hlen:(done++[e]).length=done.length + 1:=by simp
  refine Awh (rest:=rest) (done:=done++[e]) (ancs:=ancs++[Akt ancs (Vo e.o)]) (by rw [h]; simp) (by simp [hl]) (by rw [hlen]; exact k3) ?_ ?_ ?_
  ·intro k f x hk hx
   by_cases q:k < done.length
   ·rw [List.getElem?_append_left q] at hk
    refine h2 k f x hk ?_
    rw [List.getD_eq_getElem?_getD,List.getElem?_append_left (by omega),← List.getD_eq_getElem?_getD] at hx
    exact hx
   ·have hkl:=(List.getElem?_eq_some_iff.1 hk).1
    have hke:k=done.length:=by simp at hkl; omega
    subst hke
    simp at hk
    subst hk
    rw [List.getD_eq_getElem?_getD,← hl] at hx
    simp at hx
    exact hbef x hx
  ·intro i j f f' q1 q2 q3 q4
   by_cases q:j < done.length
   ·exact h3 i j f f' q1 q2 q3 q
   ·have:j=done.length:=by simp at q4; omega
    subst this
    rw [hget] at q2
    cases q2
    have hi:done[i]? = some f:=by rw [h,List.getElem?_append_left q3] at q1; exact q1
    rcases Aof k2 i f hi with q5 | q5
    ·exact .inl (hbef i (by simpa using q5))
    ·exact .inr q5
  ·intro j f q1 q2
   by_cases q:j < done.length
   ·exact h4 j f q1 q
   ·have:j=done.length:=by simp at q2; omega
    subst this
    rw [hget] at q1
    cases q1
    exact Asr.1 k1
end
end
section
def unl (listed:Array Bool):Nat→Nat
 | 0=>0
 | k + 1=>unl listed k + (if listed.getD k false then 0 else 1)
theorem M0 (listed:Array Bool) (i j:Nat) (h:i < listed.size):(listed.setIfInBounds i true).getD j false=if j=i then true else listed.getD j false:=by
 by_cases q:j=i
 ·subst q
  simp [h]
 ·rw [getD_set_ne false (fun e=>q e.symm)]
  simp [q]
theorem Az6 (listed:Array Bool) (i:Nat) (h:i < listed.size):∀ k,k≤i→unl (listed.setIfInBounds i true) k=unl listed k
 | 0,_=>rfl
 | k + 1,hk=>by
  simp only [unl]
  have hq:(listed.setIfInBounds i true).getD k false=listed.getD k false:=by rw [M0 listed i k h,if_neg (by omega)]
  rw [Az6 listed i h k (by omega),hq]
theorem Az7 (listed:Array Bool) (i:Nat) (h:i < listed.size) (hf:listed.getD i false=false):∀ k,i < k→unl (listed.setIfInBounds i true) k + 1=unl listed k
 | 0,hk=>by omega
 | k + 1,hk=>by
  simp only [unl]
  by_cases q:k=i
  ·subst q
   have hq:(listed.setIfInBounds k true).getD k false=true:=by rw [M0 listed k k h,if_pos rfl]
   rw [Az6 listed k h k (Nat.le_refl _),hq,hf]
   simp
  ·have hq:(listed.setIfInBounds i true).getD k false=listed.getD k false:=by rw [M0 listed i k h,if_neg q]
   rw [hq]
   have:=Az7 listed i h hf k (by omega)
   omega
theorem Awi (listed:Array Bool):∀ k,unl listed k=0→∀ j,j < k→listed.getD j false=true
 | 0,_,j,hj=>by omega
 | k + 1,h,j,hj=>by
  simp only [unl] at h
  by_cases q:j=k
  ·subst q
   by_cases hq:listed.getD j false=true
   ·exact hq
   ·rw [if_neg hq] at h; omega
  ·exact Awi listed k (by omega) j (by omega)
section
variable {P:Program} {n B:Nat} {Iq:List Nat} {sigs:Tb} {ops:Array Oper}
theorem Aog {listed:Array Bool} {j:Nat} (hj:j∈Region.ready .any ops listed):∃ o,ops[j]? = some o∧listed.getD j true=false∧∀ p∈Vo o,listed.getD p false=true:=by
 obtain ⟨h0,o,ho,h⟩:=mem_ready.1 hj
 refine ⟨o,ho,h0,fun p hp=>?_⟩
 simp only [Vo,List.mem_map,List.mem_filter] at hp
 obtain ⟨e,⟨he,hb⟩,rfl⟩:=hp
 exact h e (Array.mem_toList_iff.1 he) hb
theorem Ayo {tr:List Qy} (htr:tr.map (·.o)=ops.toList) {listed:Array Bool} (hsz:listed.size=ops.size) (hp:∀ j f,tr[j]? = some f→∀ p∈Vo f.o,p < j) (hr:Region.ready .any ops listed=[]):
  ∀ j,j < ops.size→listed.getD j false=true:=by
 intro j
 induction j using Nat.strongRecOn with
 | _ j ih=>
  intro hj
  cases hq:listed.getD j false with
  | true=>rfl
  | false=>
   exfalso
   have hlen:tr.length=ops.size:=by rw [← Array.length_toList,← htr]; simp
   have hte:tr[j]? = some (tr[j]'(by omega)):=List.getElem?_eq_getElem (by omega)
   have ho:ops[j]? = some (tr[j]'(by omega)).o:=by
    rw [← Array.getElem?_toList,← htr,List.getElem?_map,hte]
    rfl
   have:j∈Region.ready .any ops listed:=by
    rw [mem_ready]
    refine ⟨?_,_,ho,fun e he hb=>?_⟩
    ·rw [← hq]
     simp [Array.getD,show j < listed.size by omega]
    ·have hmem:e.on∈Vo (tr[j]'(by omega)).o:=by
      simp only [Vo,List.mem_map,List.mem_filter]
      exact ⟨e,⟨Array.mem_toList_iff.2 he,hb⟩,rfl⟩
     have:=hp j _ hte _ hmem
     exact ih e.on this (by omega)
   rw [hr] at this
   cases this
theorem A3t {o:Oper} (h:Oh o=true):Ara P o=true:=by
 obtain ⟨dst,op,type,pos,after,guard⟩:=o
 cases op<;>simp only [Oh] at h<;>simp only [Ara]<;>first | exact h | (cases h; done) | skip
 case call c=>
  split at h
  ·rename_i hq
   rw [hq]
  ·cases h
theorem Awj:∀ {ms:List Md} {y:BxD ms} {ow:List (Option Nat)} {res:Nat→Qp},A3p ms=true→Mr ms y ow res=res
 | [],_,_,_,_=>rfl
 | .rd _::ms,y,ow,res,h=>Awj (ms:=ms) h
 | .own _ _::_,_,_,_,h=>by cases h
 | .bx _ _::_,_,_,_,h=>by cases h
 | .mu _ _::_,_,_,_,h=>by cases h
theorem A51 {v v':St} {nid:Nat} {o:Oper} {av:AV} {m:List Nat} (e:S7 P sigs v nid o=some (av,v')) {id:Nat} (hm:id∈m) (hw:id ∉ wrO sigs v nid o m):v'.res id=v.res id:=by
 obtain ⟨dst,op,type,pos,after,guard⟩:=o
 cases op<;>try exact absurd hm hw
 case store T x y=>
  have e2:Nm (if Af4 v x then stC (Af5 P v T x y) else stC (o9 P v T x y))=some (av,v'):=e
  unfold wrO at hw
  simp only at hw
  split at hw
  ·rename_i j off hl
   have hlp:Af4 v x=false:=by unfold Af4; rw [hl]
   rw [hlp] at e2
   simp only [Bool.false_eq_true,if_false] at e2
   obtain ⟨s',e3,e4⟩:=Af8 e2
   cases e4
   obtain ⟨cs,e5,_⟩:=Cg e3
   unfold o9 at e5
   rw [hl] at e5
   simp only [Option.bind_some] at e5
   obtain ⟨u,e6,e7⟩:=A6 e5
   split at e7
   ·cases e7
   ·split at e7
    ·split at e7
     ·split at e7
      ·cases e7
       have hne:id≠j:=by
        intro q
        subst q
        rw [if_pos (Co.2 hm)] at hw
        exact hw (List.mem_singleton.2 rfl)
       show Vf v.res j _ id=v.res id
       exact Ax _ _ hne
      ·cases e7
     ·cases e7
    ·cases e7
  ·exact absurd hm hw
 case call c=>
  unfold wrO at hw
  simp only at hw
  split at hw
  ·rename_i f xs hc
   split at hw
   ·rename_i sd hsd
    split at hw
    ·rename_i hq
     simp only [Bool.and_eq_true] at hq
     obtain ⟨q1,q2,q3,q4⟩:=hq
     unfold S7 at e
     rw [hc] at e
     simp only at e
     split at e
     ·rename_i vs hvs
      rw [hsd] at e
      simp only at e
      unfold Aef at e
      rw [q2,q3] at e
      simp only [Bool.and_self,if_true] at e
      obtain ⟨ls,e1,e⟩:=A6 e
      obtain ⟨q,e2,e⟩:=A6 e
      split at e
      ·split at e
       ·obtain ⟨r,e3,e⟩:=A6 e
        obtain ⟨vs',e4,e⟩:=A6 e
        cases e
        show Mz sd.sg.rs r.1 nid (Mr sd.sg.ps r.2 q.2 v.res) id=v.res id
        rw [Awj q1]
        refine Iw _ _ _ _ _ ?_
        have hq4:=Nat.le_of_ble_eq_true q4
        simp only [Oa,List.mem_cons,List.not_mem_nil,or_false,not_or] at hw
        omega
       ·cases e
      ·cases e
     ·cases e
    ·exact absurd hm hw
   ·exact absurd hm hw
  ·exact absurd hm hw
theorem A8y {v:St} {nid:Nat} {o:Oper} {m:List Nat} (hs:∀ i∈Oa nid,i∈m) {id:Nat} (h:id∈wrO sigs v nid o m):id∈m:=by
 unfold wrO at h
 split at h
 ·split at h
  ·split at h
   ·rename_i q
    rw [List.mem_singleton.1 h]
    exact Co.1 q
   ·exact h
  ·exact h
 ·split at h
  ·split at h
   ·split at h
    ·exact hs id h
    ·exact h
   ·exact h
  ·exact h
 ·exact h
theorem A52 (hs:A1 P sigs) {s:St} {g:Gh} {a:Act} {w:World} (h:B5 n B Iq s g a w) {e:Qy} (hf:A1r P sigs ops s e) {i:Nat} (ho:ops[i]? = some e.o)
  {K:Act→World→Prop} {Q:Exit→Act→World→Prop} (hK:∀ a' g' w',Go B Iq s g w (e.app P n s) g' w'→B5 n B Iq (e.app P n s) g' a' w'→K a' w'):wpOp P ops Q i K a w:=by
 unfold wpOp
 rw [ho]
 simp only
 rcases hf with ⟨h1,av,v,h2,h3⟩ | ⟨h1,h2⟩
 ·rw [if_pos (P4 h h1)]
  left
  refine A3n hs h h2 K Q fun u g' w' k1 k2 k3=>?_
  have happ:e.app P n s=St.put n (if Oh e.o then s else s.lay v (S9 s e.o++Oa e.nid)) e.o.dst av:=by
   have q1:e.run=true:=by rw [h3]; rfl
   have q2:e.wr=wrO sigs (s.view (D1 e.o) (S9 s e.o)) e.nid e.o (S9 s e.o++Oa e.nid):=by rw [h3]; rfl
   have q3:e.av=av:=by rw [h3]; rfl
   have q4:e.res=v.res:=by rw [h3]; rfl
   unfold Qy.app
   rw [q3]
   congr 1
   rw [q2,q4]
   by_cases hq:e.quiet P=true
   ·rw [if_pos hq]
    have hro:Ara P e.o=true:=by
     unfold Qy.quiet at hq
     rw [q1] at hq
     simpa using hq
    by_cases hlt:Oh e.o=true
    ·rw [if_pos hlt]
    ·rw [if_neg hlt]
     unfold Acx at h2
     dsimp only at h2
     split at h2
     ·rename_i hfr
      split at h2
      ·obtain ⟨p,e1,e2⟩:=A6 h2
       split at e2
       ·split at e2<;>cases e2
        unfold S7 at e1
        rw [A50 hro] at e1
        simp only [A72 hro] at e1
        have:=A5z hro e1
        rw [this]
        refine St.ext' (fun i=>rfl) (fun id=>?_)
        show s.res id=if Lm _ id then (if Lm _ id then s.res id else .unborn) else s.res id
        split
        ·rename_i hm
         split
         ·rfl
         ·rename_i hn
          rcases List.mem_append.1 (Co.1 hm) with q | q
          ·exact absurd (Co.2 q) hn
          ·exact Aem hfr id q
        ·rfl
       ·cases e2
      ·cases h2
     ·cases h2
   ·have hlt:¬ Oh e.o=true:=fun q=>hq (by
     unfold Qy.quiet
     rw [q1,A3t q]
     rfl)
    rw [if_neg hq,if_neg hlt]
    unfold Acx at h2
    dsimp only at h2
    split at h2
    ·rename_i hfr
     split at h2
     ·obtain ⟨p,e1,e2⟩:=A6 h2
      split at e2
      ·split at e2<;>cases e2
       refine St.ext' (fun i=>rfl) (fun id=>?_)
       show (if Lm _ id then v.res id else s.res id)=if Lm _ id then v.res id else s.res id
       by_cases hm:id∈S9 s e.o++Oa e.nid
       ·rw [if_pos (Co.2 hm)]
        split
        ·rfl
        ·rename_i hw
         rw [A51 e1 hm (fun q=>hw (Co.2 q))]
         show s.res id=if Lm _ id then s.res id else .unborn
         split
         ·rfl
         ·rename_i hn
          rcases List.mem_append.1 hm with q | q
          ·exact absurd (Co.2 q) hn
          ·exact Aem hfr id q
       ·rw [if_neg (fun q=>hm (Co.1 q)),if_neg (fun q=>hm (A8y (fun i hi=>List.mem_append_right _ hi) (Co.1 q)))]
      ·cases e2
     ·cases h2
    ·cases h2
  obtain ⟨r1,r2⟩:=Qr k2 e.o.dst k3
  exact hK _ g' w' (by rw [happ]; exact k1.trans r2) (by rw [happ]; exact r1)
 ·rw [if_neg (by rw [P4 h h1]; simp)]
  have happ:e.app P n s=St.put n s e.o.dst (.tp []):=by
   have q1:e.run=false:=by rw [h2]; rfl
   have q2:e.av=.tp []:=by rw [h2]; rfl
   unfold Qy.app
   rw [q2]
   have:e.quiet P=true:=by unfold Qy.quiet; rw [q1]; rfl
   rw [if_pos this]
  obtain ⟨r1,r2⟩:=Qr (av:=.tp []) (v:=undef) h e.o.dst ⟨#[],rfl,rfl,fun j v hv=>by simp at hv⟩
  exact hK _ g w (by rw [happ]; exact r2) (by rw [happ]; exact r1)
theorem A74 (hs:A1 P sigs) {tr:List Qy} {s0:St} {g0:Gh} {w0:World} (htr:tr.map (·.o)=ops.toList) (hfit:Aen P sigs ops n tr s0) (hok:A1s P ops 0 [] [] tr=true) {Q:Exit→Act→World→Prop}
  (hQ:∀ a g w,Go B Iq s0 g0 w0 (Zn P n (fun _=>true) 0 tr s0) g w→B5 n B Iq (Zn P n (fun _=>true) 0 tr s0) g a w→Q .normal a w):
  ∀ (fuel:Nat) (listed:Array Bool) (a:Act) (g:Gh) (w:World),listed.size=ops.size→unl listed ops.size≤fuel→A3s tr (fun i=>listed.getD i false=true)→
   Go B Iq s0 g0 w0 (Zn P n (fun i=>listed.getD i false) 0 tr s0) g w→B5 n B Iq (Zn P n (fun i=>listed.getD i false) 0 tr s0) g a w→wpAny P .any ops Q fuel listed a w:=by
 have hlen:tr.length=ops.size:=by rw [← Array.length_toList,← htr]; simp
 obtain ⟨hconf,hlt⟩:=Awh (tr:=tr) (rest:=tr) (done:=[]) (ancs:=[]) rfl rfl hok (by simp) (by simp) (by simp)
 have hdone:∀ (listed:Array Bool) a g w,(∀ j,j < ops.size→listed.getD j false=true)→Go B Iq s0 g0 w0 (Zn P n (fun i=>listed.getD i false) 0 tr s0) g w→
   B5 n B Iq (Zn P n (fun i=>listed.getD i false) 0 tr s0) g a w→Q .normal a w:=by
  intro listed a g w hall h1 h2
  have:Zn P n (fun i=>listed.getD i false) 0 tr s0=Zn P n (fun _=>true) 0 tr s0:=Ai4 (fun j hj=>by
   rw [Nat.zero_add]
   exact hall j (by omega))
  rw [this] at h1 h2
  exact hQ a g w h1 h2
 intro fuel
 induction fuel with
 | zero=>
  intro listed a g w hsz hu hcl h1 h2
  have hall:=Awi listed ops.size (by omega)
  refine ⟨?_,hdone listed a g w hall h1 h2⟩
  cases hr:Region.ready .any ops listed with
  | nil=>rfl
  | cons j r=>
   exfalso
   have hj:j∈Region.ready .any ops listed:=by rw [hr]; simp
   obtain ⟨o,ho,h0,_⟩:=Aog hj
   have hlt:=(Array.getElem?_eq_some_iff.1 ho).1
   have:=hall j hlt
   simp [Array.getD,show j < listed.size by omega] at this h0
   rw [this] at h0
   cases h0
 | succ fuel ih=>
  intro listed a g w hsz hu hcl h1 h2
  refine ⟨fun hr=>hdone listed a g w (Ayo htr hsz hlt hr) h1 h2,fun i hi=>?_⟩
  obtain ⟨o,ho,h0,hp⟩:=Aog hi
  have hil:i < ops.size:=(Array.getElem?_eq_some_iff.1 ho).1
  have hf0:listed.getD i false=false:=by
   rw [← h0]
   simp [Array.getD,show i < listed.size by omega]
  have hte:tr[i]? = some (tr[i]'(by omega)):=List.getElem?_eq_getElem (by omega)
  generalize hen:tr[i]'(by omega)=e at hte
  have heo:e.o=o:=by
   have:ops[i]? = some e.o:=by
    rw [← Array.getElem?_toList,← htr,List.getElem?_map,hte]
    rfl
   rw [ho] at this
   exact (Option.some.inj this).symm
  have hnotbef:∀ j f,tr[j]? = some f→i < j→listed.getD j false=true→Oi P ops e f=true:=by
   intro j f q1 q2 q3
   rcases hconf i j e f hte q1 q2 with q | q
   ·exfalso
    have:=q _ hcl (hcl j f q1 q3)
    rw [hf0] at this
    cases this
   ·exact q
  have hahead:∀ j f,tr[j]? = some f→j < i→listed.getD j false=false→Oi P ops f e=true:=by
   intro j f q1 q2 q3
   rcases hconf j i f e q1 hte q2 with q | q
   ·exfalso
    have:=q _ hcl (fun p hpp=>hp p (by rw [← heo]; exact hpp))
    rw [q3] at this
    cases this
   ·exact q
  have hagree:=Ai5 (P:=P) (n:=n) (D:=fun i=>listed.getD i false) (e:=e) (tr:=tr) (k:=0) (i:=i) (s:=s0) (t:=s0) ⟨fun _ _=>rfl,fun _ _=>rfl⟩
   (fun j f q1 q2 q3=>by rw [Nat.zero_add] at q3; exact (Agj (hahead j f q1 q2 q3)).1)
   (fun j f q1 q2 q3=>by
    rw [Nat.zero_add] at q3
    by_cases q:j=i
    ·subst q
     rw [hf0] at q3
     cases q3
    ·exact (Agj (hnotbef j f q1 (by omega) q3)).2)
  have hfits:=(Aen.get (k:=0) hfit hte).local hagree.symm
  refine A52 hs h2 hfits (by rw [heo]; exact ho) fun a' g' w' k1 k2=>?_
  have hset:Zn P n (fun j=>(listed.setIfInBounds i true).getD j false) 0 tr s0=e.app P n (Zn P n (fun i=>listed.getD i false) 0 tr s0):=by
   refine Az5 (ops:=ops) (i:=i) hte (by rw [Nat.zero_add]; exact hf0) (by rw [Nat.zero_add,M0 listed i i (by omega),if_pos rfl]) (fun j hj=>by rw [Nat.zero_add,M0 listed i j (by omega),if_neg hj]) (fun j f q1 q2 q3=>?_)
   rw [Nat.zero_add] at q3
   exact hnotbef j f q2 q1 q3
  refine ih (listed.setIfInBounds i true) a' g' w' (by simp [hsz]) ?_ ?_ (by rw [hset]; exact h1.trans k1) (by rw [hset]; exact k2)
  ·have:=Az7 listed i (by omega) hf0 ops.size hil
   omega
  ·intro k f q1 q2 p q3
   rw [M0 listed i k (by omega)] at q2
   rw [M0 listed i p (by omega)]
   split
   ·rfl
   ·by_cases q:k=i
    ·subst q
     rw [hte] at q1
     cases q1
     exact hp p (by rw [← heo]; exact q3)
    ·rw [if_neg q] at q2
     exact hcl k f q1 q2 p q3
end
end
section
def Awk (l:List (Nat×AV)) (i:Nat):AV:=match l with
 | []=>.dead
 | (j,v)::r=>bif Nat.beq j i then v else Awk r i
def Asu (l:List Qp) (i:Nat):Qp:=match l,i with
 | [],_=>.unborn
 | r::_,0=>r
 | _::l,i + 1=>Asu l i
def Awl (cs:List (Nat×AV)) (rs:List Qp):St:=⟨Awk cs,Asu rs⟩
def Xm (us:List Nat) (id:Nat):Option Nat:=match us with
 | []=>none
 | j::r=>bif Nat.beq j id then some 0 else (Xm r id).map (· + 1)
def Aoh (s:St) (us:List Nat):Lf→Option Lf
 | .c v=>some (.c v)
 | .sl t xs=>some (.sl t xs)
 | .row id=>match s.res id with
  | .frozen t xs=>some (.sl t xs)
  | _=>(Xm us id).map .row
 | .ptr id off=>(Xm us id).map fun j=>.ptr j off
 | .ep t xs i off=>some (.ep t xs i off)
 | .rp id i off=>(Xm us id).map fun j=>.rp j i off
 | .sp id=>(Xm us id).map fun j=>.sp j
def Agl (s:St) (us:List Nat):List Lf→Option (List Lf)
 | []=>some []
 | l::r=>(Aoh s us l).bind fun l'=>(Agl s us r).map fun r'=>l'::r'
def Az8 (s:St) (us:List Nat):Vl→Option Vl
 | .lf l=>(Aoh s us l).map .lf
 | .ag ls=>(Agl s us ls).map .ag
def Ai6 (s:St) (us:List Nat):List Vl→Option (List Vl)
 | []=>some []
 | l::r=>(Az8 s us l).bind fun l'=>(Ai6 s us r).map fun r'=>l'::r'
def Aoi (s:St) (us:List Nat):AV→AV
 | .dead=>.dead
 | .vl v=>match Az8 s us v with
  | some v=>.vl v
  | none=>.dead
 | .tp vs=>match Ai6 s us vs with
  | some vs=>.tp vs
  | none=>.dead
 | .fn f ls=>match Agl s us ls with
  | some ls=>.fn f ls
  | none=>.dead
def Dv (s:St) (us:List Nat):Qp→Qp
 | .box T ls=>match Agl s us ls with
  | some ls=>.box T ls
  | none=>.dead
 | .last e t xs c j=>match Xm us j with
  | some j'=>.last e t xs c j'
  | none=>.dead
 | r=>r
def Agm (s:St):List Lf→List Nat
 | []=>[]
 | .row id::r=>match s.res id with
  | .frozen _ _=>Agm s r
  | _=>id::Agm s r
 | .ptr id _::r=>id::Agm s r
 | .rp id _ _::r=>id::Agm s r
 | .sp id::r=>id::Agm s r
 | _::r=>Agm s r
def Az9:List Vl→List Lf
 | []=>[]
 | v::r=>v.ls++Az9 r
def A75:AV→List Lf
 | .dead=>[]
 | .vl v=>v.ls
 | .tp vs=>Az9 vs
 | .fn _ ls=>ls
def Asv (s:St):List Nat→List Lf
 | []=>[]
 | i::r=>A75 (s.cell i)++Asv s r
def Auj (s:St):List Nat→List Lf
 | []=>[]
 | i::r=>(match s.res i with | .box _ ls=>ls | .last _ _ _ _ j=>[.row j] | _=>[])++Auj s r
def Aoj (us:List Nat):List Nat→List Nat
 | []=>us
 | i::r=>if Lm us i then Aoj us r else Aoj (us++[i]) r
def A9q (n:Nat):List Nat:=List.range n
def Am4 (s:St) (np:Nat) (live:List Nat):List Nat:=
 let l0:=Aoj (A9q np) (Agm s (Asv s live))
 let l1:=Aoj l0 (Agm s (Auj s l0))
 Aoj l1 (Agm s (Auj s l1))
def Auk (s:St) (us:List Nat):List Nat→List (Nat×AV)
 | []=>[]
 | i::r=>(i,Aoi s us (s.cell i))::Auk s us r
def Arc (s:St) (us:List Nat):List Nat→List Qp
 | []=>[]
 | i::r=>Dv s us (s.res i)::Arc s us r
def Abu:Nat→Nat→List Nat→Bool
 | _,0,_=>true
 | k,m + 1,i::r=>Nat.beq i k&&Abu (k + 1) m r
 | _,_ + 1,[]=>false
def canon (np:Nat) (live:List Nat) (s:St):Option (St×Nat):=
 let us:=Am4 s np live
 if S3 us&&Abu 0 np us then some (Awl (Auk s us live) (Arc s us us),us.length) else none
section
variable {P:Program} {n B:Nat} {Iq:List Nat} {s:St} {g:Gh} {a:Act} {w:World}
theorem Asw {us:List Nat} {id j:Nat} (h:Xm us id=some j):us[j]? = some id:=by
 induction us generalizing j with
 | nil=>simp [Xm] at h
 | cons k r ih=>
  simp only [Xm] at h
  cases hq:Nat.beq k id with
  | true=>
   rw [hq] at h
   simp at h
   subst h
   simp [Nat.eq_of_beq_eq_true hq]
  | false=>
   rw [hq] at h
   simp only [cond_false] at h
   obtain ⟨i,h1,rfl⟩:=Option.map_eq_some_iff.1 h
   simpa using ih h1
theorem Asx {us':List Nat}:∀ {us:List Nat} {j:Nat},Asu (Arc s us' us) j=match us[j]? with | some id=>Dv s us' (s.res id) | none=>.unborn
 | [],_=>by simp [Arc,Asu]
 | i::r,0=>by simp [Arc,Asu]
 | i::r,j + 1=>by
  simp only [Arc,Asu]
  rw [Asx (us:=r)]
  simp
theorem Asy {us:List Nat}:∀ {l:List Nat} {i:Nat},Awk (Auk s us l) i=if i∈l then Aoi s us (s.cell i) else .dead
 | [],i=>by simp [Auk,Awk]
 | j::r,i=>by
  simp only [Auk,Awk]
  cases hq:Nat.beq j i with
  | true=>
   have:=Nat.eq_of_beq_eq_true hq
   subst this
   simp
  | false=>
   have:j≠i:=fun e=>by subst e; simp at hq
   simp only [cond_false]
   rw [Asy (l:=r)]
   simp [Ne.symm this]
section
variable {us live:List Nat}
def P5 (s:St) (us:List Nat) (g:Gh):Gh:=⟨fun j=>match us[j]? with | some id=>if (Dv s us (s.res id)).live then g.blk id else none | none=>none,fun j=>match us[j]? with | some id=>g.hdr id | none=>undef,g.av⟩
theorem A3u {r:Qp} (h:(Dv s us r).live=true):r.live=true:=by
 cases r<;>simp only [Dv] at h<;>first | exact h | rfl
theorem A3v {s':St} (hs:∀ j,s'.res j=match us[j]? with | some id=>Dv s us (s.res id) | none=>.unborn) (b:Nat) (hb:Ev s g b):Ev s' (P5 s us g) b:=by
 refine ⟨hb.1,fun j hl hk=>?_⟩
 rw [hs] at hl
 simp only [P5] at hk
 cases hu:us[j]? with
 | none=>rw [hu] at hl; cases hl
 | some id=>
  rw [hu] at hl hk
  simp only at hl hk
  rw [if_pos hl] at hk
  exact hb.2 id (A3u hl) hk
theorem A0a {s':St} (hs:∀ j,s'.res j=match us[j]? with | some id=>Dv s us (s.res id) | none=>.unborn) (hres:∀ id,Mc s g w id (s.res id)):
  ∀ {l l':Lf} {u:Value},Aoh s us l=some l'→Dp s g w l u→Dp s' (P5 s us g) w l' u:=by
 have hS:∀ b,Ev s g b→b < w.heap.size→Ev s' (P5 s us g) b∧w.heap[b]? = w.heap[b]? := fun b hb _=>⟨A3v hs b hb,rfl⟩
 have hat:∀ {id j:Nat},Xm us id=some j→s'.res j=Dv s us (s.res id)∧(P5 s us g).hdr j=g.hdr id∧((Dv s us (s.res id)).live=true→(P5 s us g).blk j=g.blk id):=by
  intro id j h
  have hu:=Asw h
  refine ⟨by rw [hs,hu],by simp only [P5,hu],fun hl=>by simp only [P5,hu]; rw [if_pos hl]⟩
 intro l l' u h hl
 cases l with
 | c v=>cases h; exact hl
 | sl t xs=>cases h; exact Ty.K_keep hS hl
 | row id=>
  simp only [Aoh] at h
  split at h
  ·rename_i t xs hr
   cases h
   have r:=hres id
   rw [hr] at r
   simp only [Dp,hr] at hl
   rw [hl]
   exact Ty.K_keep hS r.1
  ·rename_i hn
   obtain ⟨j,h1,rfl⟩:=Option.map_eq_some_iff.1 h
   obtain ⟨a1,a2,a3⟩:=hat h1
   simp only [Dp] at hl ⊢
   rw [a1,a2]
   cases hr:s.res id with
   | unborn=>rw [hr] at hl; exact hl.elim
   | dead=>trivial
   | box T ls=>rw [hr] at hl; exact hl.elim
   | row e t xs=>rw [hr] at hl; exact hl
   | frozen t xs=>exact absurd hr (hn t xs)
   | last e t xs c k=>
    rw [hr] at hl
    simp only [Dv]
    cases hq:Xm us k with
    | none=>trivial
    | some k'=>exact hl
   | map t xs=>rw [hr] at hl; exact hl
   | iter t xs seen cur=>rw [hr] at hl; exact hl
 | ptr id off=>
  simp only [Aoh] at h
  obtain ⟨j,h1,rfl⟩:=Option.map_eq_some_iff.1 h
  obtain ⟨a1,a2,a3⟩:=hat h1
  simp only [Dp] at hl ⊢
  rw [a1]
  cases hr:s.res id with
  | unborn=>rw [hr] at hl; exact hl.elim
  | dead=>trivial
  | box T ls=>
   rw [hr] at hl a3
   simp only [Dv] at a3 ⊢
   cases hq:Agl s us ls with
   | none=>trivial
   | some ls'=>
    rw [hq] at a3
    obtain ⟨b,hb,hu⟩:=hl
    exact ⟨b,(a3 rfl).trans hb,hu⟩
  | row e t xs=>rw [hr] at hl; exact hl.elim
  | frozen t xs=>rw [hr] at hl; exact hl.elim
  | last _ _ _ _ _=>rw [hr] at hl; exact hl.elim
  | map _ _=>rw [hr] at hl; exact hl.elim
  | iter _ _ _ _=>rw [hr] at hl; exact hl.elim
 | ep t xs i off=>
  cases h
  obtain ⟨ad,cs,h1,h2,h3,h4,h5⟩:=hl
  exact ⟨ad,cs,h1,A3v hs _ h2,h3,Ty.K_keep hS h4,h5⟩
 | rp id i off=>
  simp only [Aoh] at h
  obtain ⟨j,h1,rfl⟩:=Option.map_eq_some_iff.1 h
  obtain ⟨a1,a2,a3⟩:=hat h1
  simp only [Dp] at hl ⊢
  rw [a1]
  cases hr:s.res id with
  | unborn=>rw [hr] at hl; exact hl.elim
  | dead=>trivial
  | box T ls=>rw [hr] at hl; exact hl.elim
  | row e t xs=>
   rw [hr] at hl a3
   obtain ⟨hi,b,hb,hu⟩:=hl
   exact ⟨hi,b,(a3 rfl).trans hb,hu⟩
  | frozen t xs=>trivial
  | last e t xs c k=>
   rw [hr] at hl a3
   simp only [Dv] at a3 ⊢
   cases hq:Xm us k with
   | none=>trivial
   | some k'=>
    rw [hq] at a3
    obtain ⟨hi,b,hb,hu⟩:=hl
    exact ⟨hi,b,(a3 rfl).trans hb,hu⟩
  | map _ _=>rw [hr] at hl; exact hl.elim
  | iter _ _ _ _=>rw [hr] at hl; exact hl.elim
 | sp id=>
  simp only [Aoh] at h
  obtain ⟨j,h1,rfl⟩:=Option.map_eq_some_iff.1 h
  obtain ⟨a1,a2,a3⟩:=hat h1
  simp only [Dp] at hl ⊢
  rw [a1]
  cases hr:s.res id with
  | unborn=>rw [hr] at hl; exact hl.elim
  | dead=>trivial
  | box T ls=>
   rw [hr] at hl a3
   simp only [Dv] at a3 ⊢
   cases hq:Agl s us ls with
   | none=>trivial
   | some ls'=>
    rw [hq] at a3
    rcases hl with hl | ⟨b,hb,hu⟩
    ·exact .inl hl
    ·exact .inr ⟨b,(a3 rfl).trans hb,hu⟩
  | row e t xs=>rw [hr] at hl; exact hl.elim
  | frozen t xs=>rw [hr] at hl; exact hl.elim
  | last _ _ _ _ _=>rw [hr] at hl; exact hl.elim
  | map _ _=>rw [hr] at hl; exact hl.elim
  | iter _ _ _ _=>rw [hr] at hl; exact hl.elim
section
variable {s':St} (hs:∀ j,s'.res j=match us[j]? with | some id=>Dv s us (s.res id) | none=>.unborn) (hres:∀ id,Mc s g w id (s.res id))
 include hs hres
theorem Am5:∀ {ls ls':List Lf} {cs:List Value},Agl s us ls=some ls'→Hl s g w ls cs→Hl s' (P5 s us g) w ls' cs
 | [],ls',[],h,_=>by cases h; trivial
 | [],_,_::_,_,h=>h.elim
 | _::_,_,[],_,h=>h.elim
 | l::r,ls',c::cs,h,hL=>by
  simp only [Agl] at h
  obtain ⟨l',h1,h2⟩:=A6 h
  obtain ⟨r',h3,rfl⟩:=Option.map_eq_some_iff.1 h2
  exact ⟨⟨A0a hs hres h1 hL.1.1,hL.1.2⟩,Am5 h3 hL.2⟩
theorem A0b {v v':Vl} {u:Value} (h:Az8 s us v=some v') (hv:VlR s g w v u):VlR s' (P5 s us g) w v' u:=by
 cases v with
 | lf l=>
  obtain ⟨l',h1,rfl⟩:=Option.map_eq_some_iff.1 h
  exact ⟨A0a hs hres h1 hv.1,hv.2⟩
 | ag ls=>
  obtain ⟨l',h1,rfl⟩:=Option.map_eq_some_iff.1 h
  obtain ⟨cs,e1,e2⟩:=hv
  exact ⟨cs,e1,Am5 hs hres h1 e2⟩
 omit hs hres in
theorem Aok:∀ {vs vs':List Vl} {j:Nat} {v':Vl},Ai6 s us vs=some vs'→vs'[j]? = some v'→∃ v,vs[j]? = some v∧Az8 s us v=some v'
 | [],vs',j,v',h,hj=>by cases h; simp at hj
 | v::r,vs',j,v',h,hj=>by
  simp only [Ai6] at h
  obtain ⟨l',h1,h2⟩:=A6 h
  obtain ⟨r',h3,rfl⟩:=Option.map_eq_some_iff.1 h2
  cases j with
  | zero=>simp at hj; subst hj; exact ⟨v,rfl,h1⟩
  | succ j=>
   obtain ⟨x,e1,e2⟩:=Aok h3 (j:=j) (by simpa using hj)
   exact ⟨x,by simpa using e1,e2⟩
 omit hs hres in
theorem Aol:∀ {vs vs':List Vl},Ai6 s us vs=some vs'→vs'.length=vs.length
 | [],vs',h=>by cases h; rfl
 | v::r,vs',h=>by
  simp only [Ai6] at h
  obtain ⟨l',h1,h2⟩:=A6 h
  obtain ⟨r',h3,rfl⟩:=Option.map_eq_some_iff.1 h2
  simp [Aol h3]
theorem A53 {v:AV} {u:Value} (hv:Wz s g w v u):Wz s' (P5 s us g) w (Aoi s us v) u:=by
 cases v with
 | dead=>trivial
 | vl v=>
  simp only [Aoi]
  split
  ·rename_i v' h
   exact A0b hs hres h hv
  ·trivial
 | tp vs=>
  simp only [Aoi]
  split
  ·rename_i vs' h
   obtain ⟨cs,h1,h2,h3⟩:=hv
   refine ⟨cs,h1,by rw [Aol h]; exact h2,fun j l hl=>?_⟩
   obtain ⟨v,e1,e2⟩:=Aok h hl
   obtain ⟨x,e3,e4⟩:=h3 j v e1
   exact ⟨x,e3,A0b hs hres e2 e4⟩
  ·trivial
 | fn f ls=>
  simp only [Aoi]
  split
  ·rename_i ls' h
   obtain ⟨cs,h1,h2⟩:=hv
   exact ⟨cs,h1,Am5 hs hres h h2⟩
  ·trivial
end
end
theorem A3w (h:B5 n B Iq s g a w) {np:Nat} {live:List Nat} {s':St} {nid:Nat} (e:canon np live s=some (s',nid)):
  ∃ g',B5 n B Iq s' g' a w∧g'.av=g.av∧∀ id,id < np→(s'.res id=.unborn→s.res id=.unborn)∧(∀ T ls,s'.res id=.box T ls→(∃ T' ls',s.res id=.box T' ls')∧g'.blk id=g.blk id)∧(∀ e,∀ t:Ty,∀ xs:List t.D,s'.res id=.row e t xs→(∃ e',∃ xs':List t.D,s.res id=.row e' t xs')∧g'.blk id=g.blk id∧g'.hdr id=g.hdr id):=by
 unfold canon at e
 dsimp only at e
 generalize hus:Am4 s np live=us at e
 split at e<;>cases e
 rename_i hc
 simp only [Bool.and_eq_true] at hc
 have hnd:=Af3 hc.1
 have hs:∀ j,(Awl (Auk s us live) (Arc s us us)).res j=match us[j]? with | some id=>Dv s us (s.res id) | none=>.unborn:=fun j=>Asx
 have hcell:∀ i,(Awl (Auk s us live) (Arc s us us)).cell i=if i∈live then Aoi s us (s.cell i) else .dead:=fun i=>Asy
 generalize Awl (Auk s us live) (Arc s us us)=s' at hs hcell ⊢
 have hst:∀ k m l,Abu k m l=true→∀ j,j < m→l[j]? = some (k + j):=by
  intro k m
  induction m generalizing k with
  | zero=>intro l _ j hj; omega
  | succ m ih=>
   intro l hl j hj
   cases l with
   | nil=>simp [Abu] at hl
   | cons i r=>
    simp only [Abu,Bool.and_eq_true] at hl
    cases j with
    | zero=>simp [Nat.eq_of_beq_eq_true hl.1]
    | succ j=>
     have:=ih (k + 1) r hl.2 j (by omega)
     rw [List.getElem?_cons_succ,this]
     congr 1
     omega
 have hpin:∀ id,id < np→us[id]? = some id:=fun id hid=>by have:=hst 0 np us hc.2 id hid; simpa using this
 have blk_of:∀ j b,(P5 s us g).blk j=some b→∃ id,us[j]? = some id∧g.blk id=some b∧(Dv s us (s.res id)).live=true:=by
  intro j b hb
  simp only [P5] at hb
  cases hu:us[j]? with
  | none=>rw [hu] at hb; cases hb
  | some id=>
   rw [hu] at hb
   simp only at hb
   split at hb
   ·rename_i hl
    exact ⟨id,rfl,hb,hl⟩
   ·cases hb
 refine ⟨P5 s us g,⟨h.size,h.defers,h.base,fun i=>?_,fun j=>?_,fun i j b hi hj=>?_,fun j b hb=>?_,h.avB⟩,rfl,fun id hid=>?_⟩
 ·rw [hcell]
  split
  ·exact A53 hs h.res (h.cell i)
  ·trivial
 ·rw [hs]
  cases hu:us[j]? with
  | none=>show (P5 s us g).blk j=none; simp only [P5,hu]
  | some id=>
   simp only
   have r:=h.res id
   have hblk:(P5 s us g).blk j=if (Dv s us (s.res id)).live then g.blk id else none:=by simp only [P5,hu]
   have hhdr:(P5 s us g).hdr j=g.hdr id:=by simp only [P5,hu]
   have hSS:∀ b,Ev s g b→b < w.heap.size→Ev s' (P5 s us g) b:=fun b hb _=>A3v hs b hb
   cases hr:s.res id with
   | unborn=>rw [hr] at hblk; exact hblk
   | dead=>rw [hr] at hblk; exact hblk
   | box T ls=>
    rw [hr] at r hblk
    cases hq:Agl s us ls with
    | none=>
     have hrr:Dv s us (.box T ls)=.dead:=by simp only [Dv,hq]
     rw [hrr] at hblk ⊢
     exact hblk
    | some ls'=>
     have hrr:Dv s us (.box T ls)=.box T ls':=by simp only [Dv,hq]
     rw [hrr] at hblk ⊢
     obtain ⟨b,cs,h1,h2,h3⟩:=r
     exact ⟨b,cs,hblk.trans h1,h2,Am5 hs h.res hq h3⟩
   | row e t xs=>
    rw [hr] at r hblk
    obtain ⟨cs,h1,h2,h3⟩:=r
    exact ⟨cs,by rw [hhdr]; exact h1,h2.imp hSS,by rw [hhdr]; exact hblk.trans h3⟩
   | frozen t xs=>
    rw [hr] at r hblk
    exact ⟨by rw [hhdr]; exact Ty.K_keep (fun b hb hl=>⟨hSS b hb hl,rfl⟩) r.1,hblk⟩
   | last e t xs c k=>
    rw [hr] at r hblk
    cases hq:Xm us k with
    | none=>
     have hrr:Dv s us (.last e t xs c k)=.dead:=by simp only [Dv,hq]
     rw [hrr] at hblk ⊢
     exact hblk
    | some k'=>
     have hrr:Dv s us (.last e t xs c k)=.last e t xs c k':=by simp only [Dv,hq]
     rw [hrr] at hblk ⊢
     obtain ⟨cs,h1,h2,h3,h4⟩:=r
     refine ⟨cs,by rw [hhdr]; exact h1,h2.imp hSS,by rw [hhdr]; exact hblk.trans h3,fun u hc hu=>?_⟩
     have h5:=h4 u hc hu
     have hk':=Asw hq
     have e1:s'.res k'=Dv s us (s.res k):=by rw [hs,hk']
     have e2:(P5 s us g).hdr k'=g.hdr k:=by simp only [P5,hk']
     rw [e1,e2]
     cases hrk:s.res k with
     | unborn=>rw [hrk] at h5; exact h5.elim
     | dead=>trivial
     | box T ls=>rw [hrk] at h5; exact h5.elim
     | row _ _ _=>rw [hrk] at h5; exact h5
     | frozen _ _=>rw [hrk] at h5; exact h5
     | last _ _ _ _ _=>rw [hrk] at h5; exact h5.elim
     | map _ _=>rw [hrk] at h5; exact h5.elim
     | iter _ _ _ _=>rw [hrk] at h5; exact h5.elim
   | map t xs=>
    rw [hr] at r hblk
    obtain ⟨b,es,clock,h1,h2,h3⟩:=r
    exact ⟨b,es,clock,hblk.trans h1,hhdr.trans h2,h3⟩
   | iter t xs seen cur=>
    rw [hr] at r hblk
    obtain ⟨b,r,es,clock,since,c0,sn,h1,h2,h3,h4,h5,h6⟩:=r
    exact ⟨b,r,es,clock,since,c0,sn,hblk.trans h1,hhdr.trans h2,h3,hSS b h4 h5,h5,h6⟩
 ·obtain ⟨i0,e1,e2,_⟩:=blk_of i b hi
  obtain ⟨j0,e3,e4,_⟩:=blk_of j b hj
  have:=h.inj i0 j0 b e2 e4
  subst this
  have hil:=(List.getElem?_eq_some_iff.1 e1).1
  exact (List.getElem?_inj hil hnd).1 (e1.trans e3.symm)
 ·obtain ⟨id,e1,e2,_⟩:=blk_of j b hb
  exact h.lt id b e2
 ·have hu:=hpin id hid
  have hsr:s'.res id=Dv s us (s.res id):=by rw [hs,hu]
  have hb:(P5 s us g).blk id=if (Dv s us (s.res id)).live then g.blk id else none:=by simp only [P5,hu]
  have hh:(P5 s us g).hdr id=g.hdr id:=by simp only [P5,hu]
  refine ⟨fun hq=>?_,fun T ls hq=>?_,fun e t xs hq=>?_⟩
  ·rw [hsr] at hq
   cases hr:s.res id with
   | unborn=>rfl
   | box T ls=>
    rw [hr] at hq
    simp only [Dv] at hq
    split at hq<;>cases hq
   | dead=>rw [hr] at hq; cases hq
   | row e t xs=>rw [hr] at hq; cases hq
   | frozen t xs=>rw [hr] at hq; cases hq
   | last _ _ _ _ _=>
    rw [hr] at hq
    simp only [Dv] at hq
    split at hq<;>cases hq
   | map _ _=>rw [hr] at hq; cases hq
   | iter _ _ _ _=>rw [hr] at hq; cases hq
  ·rw [hsr] at hq
   rw [hq] at hb
   refine ⟨?_,hb⟩
   cases hr:s.res id with
   | unborn=>rw [hr] at hq; cases hq
   | box T ls=>exact ⟨T,ls,rfl⟩
   | dead=>rw [hr] at hq; cases hq
   | row e t xs=>rw [hr] at hq; cases hq
   | frozen t xs=>rw [hr] at hq; cases hq
   | last _ _ _ _ _=>
    rw [hr] at hq
    simp only [Dv] at hq
    split at hq<;>cases hq
   | map _ _=>rw [hr] at hq; cases hq
   | iter _ _ _ _=>rw [hr] at hq; cases hq
  ·rw [hsr] at hq
   rw [hq] at hb
   refine ⟨?_,hb,hh⟩
   cases hr:s.res id with
   | unborn=>rw [hr] at hq; cases hq
   | box T ls=>
    rw [hr] at hq
    simp only [Dv] at hq
    split at hq<;>cases hq
   | dead=>rw [hr] at hq; cases hq
   | row e t xs=>rw [hr] at hq; cases hq; exact ⟨e,xs,rfl⟩
   | frozen t xs=>rw [hr] at hq; cases hq
   | last _ _ _ _ _=>
    rw [hr] at hq
    simp only [Dv] at hq
    split at hq<;>cases hq
   | map _ _=>rw [hr] at hq; cases hq
   | iter _ _ _ _=>rw [hr] at hq; cases hq
end
end
section
inductive Pe where
 | d (t:Ty)
 | row (id:Nat)
 | ptr (id off:Nat)
 | sp (id:Nat)
inductive Pv where
 | dead
 | lf (p:Pe)
 | ag (ps:List Pe)
 | fn (f:FuncId) (ps:List Pe)
inductive Pr where
 | dead
 | unborn
 | box (T:TypeId) (ps:List Pe)
 | row (e:TypeId) (t:Ty)
 | last (e:TypeId) (t:Ty) (j:Nat)
 | map (t:Ty)
 | iter (t:Ty)
inductive Fx where
 | sl (slot ix:Nat) (t:Ty)
 | row (slot ix:Nat) (e:TypeId) (t:Ty)
 | boxSl (slot ix:Nat) (t:Ty)
 | boxRow (slot ix:Nat) (e:TypeId) (t:Ty)
 | self (slot ix:Nat)
 | last (slot:Nat) (e:TypeId) (t:Ty)
structure Du where
 fx:List Fx
 cs:List (Nat×Pv)
 rs:List Pr
def Aom:List Pe→Type→Type
 | [],X=>X
 | .d t::r,X=>t.D×Aom r X
 | .row _::r,X=>Aom r X
 | .ptr _ _::r,X=>Aom r X
 | .sp _::r,X=>Aom r X
def PvD:Pv→Type→Type
 | .dead,X=>X
 | .lf p,X=>Aom [p] X
 | .ag ps,X=>Aom ps X
 | .fn _ ps,X=>Aom ps X
def CsD:List (Nat×Pv)→Type→Type
 | [],X=>X
 | p::r,X=>PvD p.2 (CsD r X)
def PrD:Pr→Type→Type
 | .dead,X=>X
 | .unborn,X=>X
 | .box _ ps,X=>Aom ps X
 | .row _ t,X=>List t.D×X
 | .last _ t _,X=>List (List t.D)×Bool×X
 | .map t,X=>List (Ab×t.D)×X
 | .iter t,X=>List (Ab×t.D)×List (Ab×t.D)×Option (Ab×t.D)×X
def RsD:List Pr→Type→Type
 | [],X=>X
 | p::r,X=>PrD p (RsD r X)
def Du.D (p:Du):Type:=CsD p.cs (RsD p.rs Unit)
section
variable {X:Type}
def Bj:(ps:List Pe)→Aom ps X→List Lf×X
 | [],d=>([],d)
 | .d t::r,d=>(t.leafs d.1++(Bj r d.2).1,(Bj r d.2).2)
 | .row id::r,d=>(.row id::(Bj r d).1,(Bj r d).2)
 | .ptr id off::r,d=>(.ptr id off::(Bj r d).1,(Bj r d).2)
 | .sp id::r,d=>(.sp id::(Bj r d).1,(Bj r d).2)
def A3x:List Lf→AV
 | [l]=>.vl (.lf l)
 | _=>.dead
def Vp:(p:Pv)→PvD p X→AV×X
 | .dead,d=>(.dead,d)
 | .lf p,d=>(A3x (Bj [p] d).1,(Bj [p] d).2)
 | .ag ps,d=>(.vl (.ag (Bj ps d).1),(Bj ps d).2)
 | .fn f ps,d=>(.fn f (Bj ps d).1,(Bj ps d).2)
def Vq:(l:List (Nat×Pv))→CsD l X→List (Nat×AV)×X
 | [],d=>([],d)
 | p::r,d=>((p.1,(Vp p.2 d).1)::(Vq r (Vp p.2 d).2).1,(Vq r (Vp p.2 d).2).2)
def Xn:(p:Pr)→PrD p X→Qp×X
 | .dead,d=>(.dead,d)
 | .unborn,d=>(.unborn,d)
 | .box T ps,d=>(.box T (Bj ps d).1,(Bj ps d).2)
 | .row e t,d=>(.row e t d.1,d.2)
 | .last e t j,d=>(.last e t d.1 d.2.1 j,d.2.2)
 | .map t,d=>(.map t d.1,d.2)
 | .iter t,d=>(.iter t d.1 d.2.1 d.2.2.1,d.2.2.2)
def a8:(l:List Pr)→RsD l X→List Qp×X
 | [],d=>([],d)
 | p::r,d=>((Xn p d).1::(a8 r (Xn p d).2).1,(a8 r (Xn p d).2).2)
end
def Du.st (p:Du) (d:p.D):St:=Awl (Vq p.cs d).1 (a8 p.rs (Vq p.cs d).2).1
def Du.nid (p:Du):Nat:=p.rs.length
def Ayp:(t:Ty)→Lf→Option t.D
 | .int k,.c (.int k' n)=>if k'=k then some n else none
 | .bool,.c (.bool b)=>some b
 | .str,.c (.string b)=>some b
 | .sl t,.sl t' xs=>if h:t'=t then some (h ▸ xs) else none
 | _,_=>none
def W1:(t:Ty)→List Lf→Option (t.D×List Lf)
 | .unit,ls=>some ((),ls)
 | .pair a b,ls=>(W1 a ls).bind fun p=>(W1 b p.2).bind fun q=>some ((p.1,q.1),q.2)
 | .int k,l::r=>(Ayp (.int k) l).bind fun x=>some (x,r)
 | .bool,l::r=>(Ayp .bool l).bind fun x=>some (x,r)
 | .str,l::r=>(Ayp .str l).bind fun x=>some (x,r)
 | .sl t,l::r=>(Ayp (.sl t) l).bind fun x=>some (x,r)
 | _,[]=>none
def Aul (id:Nat):List Lf→Option (List Lf)
 | .row j::r=>if j=id then some r else none
 | _=>none
def Aum (id off:Nat):List Lf→Option (List Lf)
 | .ptr j o::r=>if j=id then (if o=off then some r else none) else none
 | _=>none
def Ayq (id:Nat):List Lf→Option (List Lf)
 | .sp j::r=>if j=id then some r else none
 | _=>none
def A80 {X:Type} (k:Option X):List Lf→Option X
 | []=>k
 | _::_=>none
section
variable {X:Type} (k:Option X)
def P6:(ps:List Pe)→List Lf→Option (Aom ps X)
 | [],ls=>A80 k ls
 | .d t::r,ls=>(W1 t ls).bind fun p=>(P6 r p.2).bind fun q=>some (p.1,q)
 | .row id::r,ls=>(Aul id ls).bind fun ls'=>P6 r ls'
 | .ptr id off::r,ls=>(Aum id off ls).bind fun ls'=>P6 r ls'
 | .sp id::r,ls=>(Ayq id ls).bind fun ls'=>P6 r ls'
def A9r:AV→Option (List Lf)
 | .vl (.ag ls)=>some ls
 | _=>none
def A81 (f:FuncId):AV→Option (List Lf)
 | .fn f' ls=>if f'=f then some ls else none
 | _=>none
def A9s:AV→Option Lf
 | .vl (.lf l)=>some l
 | _=>none
def A76:AV→Option Unit
 | .dead=>some ()
 | _=>none
def A3y:(p:Pv)→AV→Option (PvD p X)
 | .dead,v=>(A76 v).bind fun _=>k
 | .lf p,v=>(A9s v).bind fun l=>P6 k [p] [l]
 | .ag ps,v=>(A9r v).bind fun ls=>P6 k ps ls
 | .fn f ps,v=>(A81 f v).bind fun ls=>P6 k ps ls
def A7d (T:TypeId):Qp→Option (List Lf)
 | .box T' ls=>if T'=T then some ls else none
 | _=>none
def Awm (e:TypeId) (t:Ty):Qp→Option (List t.D)
 | .row e' t' xs=>if e'=e then (if h:t'=t then some (h ▸ xs) else none) else none
 | _=>none
def A3z (e:TypeId) (t:Ty) (j:Nat):Qp→Option (List (List t.D)×Bool)
 | .last e' t' xs c j'=>if e'=e then (if j'=j then (if h:t'=t then some (h ▸ xs,c) else none) else none) else none
 | _=>none
def A7e (t:Ty):Qp→Option (List (Ab×t.D))
 | .map t' xs=>if h:t'=t then some (h ▸ xs) else none
 | _=>none
def A30 (t:Ty):Qp→Option (List (Ab×t.D)×List (Ab×t.D)×Option (Ab×t.D))
 | .iter t' xs seen cur=>if h:t'=t then some (h ▸ xs,h ▸ seen,h ▸ cur) else none
 | _=>none
def A54:Qp→Option Unit
 | .dead=>some ()
 | _=>none
def A1u:Qp→Option Unit
 | .unborn=>some ()
 | _=>none
def A7f:(p:Pr)→Qp→Option (PrD p X)
 | .dead,v=>(A54 v).bind fun _=>k
 | .unborn,v=>(A1u v).bind fun _=>k
 | .box T ps,v=>(A7d T v).bind fun ls=>P6 k ps ls
 | .row e t,v=>(Awm e t v).bind fun xs=>k.bind fun x=>some (xs,x)
 | .last e t j,v=>(A3z e t j v).bind fun xs=>k.bind fun x=>some (xs.1,xs.2,x)
 | .map t,v=>(A7e t v).bind fun xs=>k.bind fun x=>some (xs,x)
 | .iter t,v=>(A30 t v).bind fun xs=>k.bind fun x=>some (xs.1,xs.2.1,xs.2.2,x)
end
def A82 {X:Type} (k:Option X) {α:Type}:List α→Option X
 | []=>k
 | _::_=>none
def A77 {α:Type}:List α→Option (α×List α)
 | []=>none
 | a::r=>some (a,r)
def Awn {X:Type} (k:Option X):(l:List (Nat×Pv))→List (Nat×AV)→Option (CsD l X)
 | [],cs=>A82 k cs
 | p::r,cs=>(A77 cs).bind fun q=>if q.1.1=p.1 then A3y (Awn k r q.2) p.2 q.1.2 else none
def A0d {X:Type} (k:Option X):(l:List Pr)→List Qp→Option (RsD l X)
 | [],rs=>A82 k rs
 | p::r,rs=>(A77 rs).bind fun q=>A7f (A0d k r q.2) p q.1
theorem W2 {α β:Type} {a a':α} {b b':β} (h1:a=a') (h2:b=b'):(a,b)=(a',b'):=by rw [h1,h2]
theorem Ayr:∀ {t:Ty} {l:Lf} {x:t.D},Ayp t l=some x→t.leafs x=[l]:=by
 intro t l x h
 unfold Ayp at h
 split at h
 ·split at h<;>cases h
  rename_i hk
  subst hk
  rfl
 ·cases h; rfl
 ·cases h; rfl
 ·split at h<;>cases h
  rename_i hk
  subst hk
  rfl
 ·cases h
theorem Aun:∀ {t:Ty} {ls:List Lf} {x:t.D} {r:List Lf},W1 t ls=some (x,r)→ls=t.leafs x++r:=by
 have one:∀ {t:Ty} {l:Lf} {r0 r:List Lf} {x:t.D},((Ayp t l).bind fun x=>some (x,r0))=some (x,r)→l::r0=t.leafs x++r:=by
  intro t l r0 r x h
  obtain ⟨y,h1,h2⟩:=A6 h
  cases h2
  rw [Ayr h1]
  rfl
 intro t
 induction t with
 | unit=>intro ls x r h; simp only [W1] at h; cases h; rfl
 | pair a b iha ihb=>
  intro ls x r h
  simp only [W1] at h
  obtain ⟨p,h1,h2⟩:=A6 h
  obtain ⟨q,h3,h4⟩:=A6 h2
  cases h4
  have e1:=iha (x:=p.1) (r:=p.2) h1
  have e2:=ihb (x:=q.1) (r:=q.2) h3
  rw [e1,e2,← List.append_assoc]
  rfl
 | int k=>intro ls x r h; cases ls with
  | nil=>simp [W1] at h
  | cons l ls=>exact one h
 | bool=>intro ls x r h; cases ls with
  | nil=>simp [W1] at h
  | cons l ls=>exact one h
 | str=>intro ls x r h; cases ls with
  | nil=>simp [W1] at h
  | cons l ls=>exact one h
 | sl t _=>intro ls x r h; cases ls with
  | nil=>simp [W1] at h
  | cons l ls=>exact one h
theorem Ays {id:Nat} {ls r:List Lf} (h:Aul id ls=some r):ls=.row id::r:=by
 unfold Aul at h
 split at h
 ·split at h<;>cases h
  rename_i hj
  rw [hj]
 ·cases h
theorem A1v {id:Nat} {ls r:List Lf} (h:Ayq id ls=some r):ls=.sp id::r:=by
 unfold Ayq at h
 split at h
 ·split at h<;>cases h
  rename_i hj
  rw [hj]
 ·cases h
theorem Ayt {id off:Nat} {ls r:List Lf} (h:Aum id off ls=some r):ls=.ptr id off::r:=by
 unfold Aum at h
 split at h
 ·split at h
  ·rename_i hj
   split at h<;>cases h
   rename_i ho
   rw [hj,ho]
  ·cases h
 ·cases h
section
variable {X:Type} {k:Option X}
theorem Lr:∀ {ps:List Pe} {ls:List Lf} {d:Aom ps X},P6 k ps ls=some d→∃ x,k=some x∧Bj ps d=(ls,x)
 | [],ls,d,h=>by
  cases ls with
  | nil=>exact ⟨d,h,rfl⟩
  | cons l ls=>cases h
 | .d t::r,ls,d,h=>by
  simp only [P6] at h
  obtain ⟨p,h1,h2⟩:=A6 h
  obtain ⟨q,h3,h4⟩:=A6 h2
  cases h4
  obtain ⟨x,e1,e2⟩:=Lr h3
  refine ⟨x,e1,?_⟩
  show (t.leafs p.1++(Bj r q).1,(Bj r q).2)=_
  rw [e2,Aun (x:=p.1) (r:=p.2) h1]
 | .row id::r,ls,d,h=>by
  simp only [P6] at h
  obtain ⟨ls',h1,h2⟩:=A6 h
  obtain ⟨x,e1,e2⟩:=Lr (ps:=r) (d:=d) h2
  refine ⟨x,e1,?_⟩
  show (Lf.row id::(Bj r d).1,(Bj r d).2)=_
  have e2':Bj r (X:=X) d=(ls',x):=e2
  rw [Ays h1]
  have a1:(Bj r (X:=X) d).1=ls':=congrArg Prod.fst e2'
  have a2:(Bj r (X:=X) d).2=x:=congrArg Prod.snd e2'
  exact W2 (congrArg (List.cons (Lf.row id)) a1) a2
 | .ptr id off::r,ls,d,h=>by
  simp only [P6] at h
  obtain ⟨ls',h1,h2⟩:=A6 h
  obtain ⟨x,e1,e2⟩:=Lr (ps:=r) (d:=d) h2
  refine ⟨x,e1,?_⟩
  show (Lf.ptr id off::(Bj r d).1,(Bj r d).2)=_
  have e2':Bj r (X:=X) d=(ls',x):=e2
  rw [Ayt h1]
  have a1:(Bj r (X:=X) d).1=ls':=congrArg Prod.fst e2'
  have a2:(Bj r (X:=X) d).2=x:=congrArg Prod.snd e2'
  exact W2 (congrArg (List.cons (Lf.ptr id off)) a1) a2
 | .sp id::r,ls,d,h=>by
  simp only [P6] at h
  obtain ⟨ls',h1,h2⟩:=A6 h
  obtain ⟨x,e1,e2⟩:=Lr (ps:=r) (d:=d) h2
  refine ⟨x,e1,?_⟩
  show (Lf.sp id::(Bj r d).1,(Bj r d).2)=_
  have e2':Bj r (X:=X) d=(ls',x):=e2
  rw [A1v h1]
  have a1:(Bj r (X:=X) d).1=ls':=congrArg Prod.fst e2'
  have a2:(Bj r (X:=X) d).2=x:=congrArg Prod.snd e2'
  exact W2 (congrArg (List.cons (Lf.sp id)) a1) a2
theorem A1w {p:Pv} {v:AV} {d:PvD p X} (h:A3y k p v=some d):∃ x,k=some x∧Vp p d=(v,x):=by
 cases p with
 | dead=>
  obtain ⟨u,h1,h2⟩:=A6 h
  cases v<;>first | (cases h1; done) | skip
  exact ⟨d,h2,rfl⟩
 | lf p=>
  obtain ⟨l,h1,h2⟩:=A6 h
  have hv:v=.vl (.lf l):=by
   cases v with
   | vl w=>cases w with
    | lf l'=>cases h1; rfl
    | ag ls=>cases h1
   | dead=>cases h1
   | tp vs=>cases h1
   | fn f ls=>cases h1
  subst hv
  obtain ⟨x,e1,e2⟩:=Lr (ps:=[p]) (d:=d) h2
  refine ⟨x,e1,?_⟩
  show (A3x (Bj [p] d).1,(Bj [p] d).2)=_
  have e2':Bj [p] (X:=X) d=([l],x):=e2
  have a1:(Bj [p] (X:=X) d).1=[l]:=congrArg Prod.fst e2'
  have a2:(Bj [p] (X:=X) d).2=x:=congrArg Prod.snd e2'
  exact W2 (congrArg A3x a1) a2
 | ag ps=>
  obtain ⟨l,h1,h2⟩:=A6 h
  have hv:v=.vl (.ag l):=by
   cases v with
   | vl w=>cases w with
    | lf l'=>cases h1
    | ag ls=>cases h1; rfl
   | dead=>cases h1
   | tp vs=>cases h1
   | fn f ls=>cases h1
  subst hv
  obtain ⟨x,e1,e2⟩:=Lr (ps:=ps) (d:=d) h2
  refine ⟨x,e1,?_⟩
  show (AV.vl (.ag (Bj ps d).1),(Bj ps d).2)=_
  have e2':Bj ps (X:=X) d=(l,x):=e2
  have a1:(Bj ps (X:=X) d).1=l:=congrArg Prod.fst e2'
  have a2:(Bj ps (X:=X) d).2=x:=congrArg Prod.snd e2'
  exact W2 (congrArg (fun l=>AV.vl (.ag l)) a1) a2
 | fn f ps=>
  obtain ⟨l,h1,h2⟩:=A6 h
  have hv:v=.fn f l:=by
   cases v with
   | vl w=>cases h1
   | dead=>cases h1
   | tp vs=>cases h1
   | fn f' ls=>
    simp only [A81] at h1
    split at h1<;>cases h1
    rename_i hf
    rw [hf]
  subst hv
  obtain ⟨x,e1,e2⟩:=Lr (ps:=ps) (d:=d) h2
  refine ⟨x,e1,?_⟩
  show (AV.fn f (Bj ps d).1,(Bj ps d).2)=_
  have e2':Bj ps (X:=X) d=(l,x):=e2
  have a1:(Bj ps (X:=X) d).1=l:=congrArg Prod.fst e2'
  have a2:(Bj ps (X:=X) d).2=x:=congrArg Prod.snd e2'
  exact W2 (congrArg (fun l=>AV.fn f l) a1) a2
theorem A1x {p:Pr} {v:Qp} {d:PrD p X} (h:A7f k p v=some d):∃ x,k=some x∧Xn p d=(v,x):=by
 cases p with
 | dead=>
  obtain ⟨u,h1,h2⟩:=A6 h
  cases v<;>first | (cases h1; done) | skip
  exact ⟨d,h2,rfl⟩
 | unborn=>
  obtain ⟨u,h1,h2⟩:=A6 h
  cases v<;>first | (cases h1; done) | skip
  exact ⟨d,h2,rfl⟩
 | box T ps=>
  obtain ⟨ls,h1,h2⟩:=A6 h
  have hv:v=.box T ls:=by
   unfold A7d at h1
   split at h1
   ·split at h1<;>cases h1
    rename_i hT
    rw [hT]
   ·cases h1
  subst hv
  obtain ⟨x,e1,e2⟩:=Lr (ps:=ps) (d:=d) h2
  refine ⟨x,e1,?_⟩
  show (Qp.box T (Bj ps d).1,(Bj ps d).2)=_
  have e2':Bj ps (X:=X) d=(ls,x):=e2
  have a1:(Bj ps (X:=X) d).1=ls:=congrArg Prod.fst e2'
  have a2:(Bj ps (X:=X) d).2=x:=congrArg Prod.snd e2'
  exact W2 (congrArg (Qp.box T) a1) a2
 | row e t=>
  obtain ⟨xs,h1,h2⟩:=A6 h
  obtain ⟨x,h3,h4⟩:=A6 h2
  have hv:v=.row e t xs:=by
   unfold Awm at h1
   split at h1
   ·split at h1
    ·rename_i he
     split at h1<;>cases h1
     rename_i ht
     subst he ht
     rfl
    ·cases h1
   ·cases h1
  subst hv
  have hd:d=(xs,x):=(Option.some.inj h4).symm
  subst hd
  exact ⟨x,h3,rfl⟩
 | last e t j=>
  obtain ⟨xs,h1,h2⟩:=A6 h
  obtain ⟨x,h3,h4⟩:=A6 h2
  have hv:v=.last e t xs.1 xs.2 j:=by
   unfold A3z at h1
   split at h1
   ·split at h1
    ·rename_i he
     split at h1
     ·rename_i hj
      split at h1<;>cases h1
      rename_i ht
      subst he ht hj
      rfl
     ·cases h1
    ·cases h1
   ·cases h1
  subst hv
  have hd:d=(xs.1,xs.2,x):=(Option.some.inj h4).symm
  subst hd
  exact ⟨x,h3,rfl⟩
 | map t=>
  obtain ⟨xs,h1,h2⟩:=A6 h
  obtain ⟨x,h3,h4⟩:=A6 h2
  have hv:v=.map t xs:=by
   unfold A7e at h1
   split at h1
   ·split at h1<;>cases h1
    rename_i ht
    subst ht
    rfl
   ·cases h1
  subst hv
  have hd:d=(xs,x):=(Option.some.inj h4).symm
  subst hd
  exact ⟨x,h3,rfl⟩
 | iter t=>
  obtain ⟨xs,h1,h2⟩:=A6 h
  obtain ⟨x,h3,h4⟩:=A6 h2
  have hv:v=.iter t xs.1 xs.2.1 xs.2.2:=by
   unfold A30 at h1
   split at h1
   ·split at h1<;>cases h1
    rename_i ht
    subst ht
    rfl
   ·cases h1
  subst hv
  have hd:d=(xs.1,xs.2.1,xs.2.2,x):=(Option.some.inj h4).symm
  subst hd
  exact ⟨x,h3,rfl⟩
end
theorem A0e {α:Type} {l:List α} {q:α×List α} (h:A77 l=some q):l=q.1::q.2:=by
 cases l with
 | nil=>cases h
 | cons a r=>cases h; rfl
theorem Asz {X:Type} {k:Option X}:∀ {l:List (Nat×Pv)} {cs:List (Nat×AV)} {d:CsD l X},Awn k l cs=some d→∃ x,k=some x∧Vq l d=(cs,x)
 | [],cs,d,h=>by
  cases cs with
  | nil=>exact ⟨d,h,rfl⟩
  | cons l ls=>cases h
 | p::r,cs,d,h=>by
  simp only [Awn] at h
  obtain ⟨q,h1,h2⟩:=A6 h
  rw [A0e h1]
  have h2:(if q.1.1=p.1 then A3y (Awn k r q.2) p.2 q.1.2 else none:Option (PvD p.2 (CsD r X)))=some d:=h2
  split at h2
  ·rename_i hi
   obtain ⟨y,e1,e2⟩:=A1w (d:=d) h2
   obtain ⟨x,e3,e4⟩:=Asz e1
   refine ⟨x,e3,?_⟩
   show ((p.1,(Vp p.2 d).1)::(Vq r (Vp p.2 d).2).1,(Vq r (Vp p.2 d).2).2)=_
   have e2':Vp p.2 (X:=CsD r X) d=(q.1.2,y):=e2
   have a1:(Vp p.2 (X:=CsD r X) d).1=q.1.2:=congrArg Prod.fst e2'
   have a2:(Vp p.2 (X:=CsD r X) d).2=y:=congrArg Prod.snd e2'
   have a3:Vq r (Vp p.2 (X:=CsD r X) d).2=(q.2,x):=(congrArg (Vq r) a2).trans e4
   have a4:(Vq r (Vp p.2 (X:=CsD r X) d).2).1=q.2:=congrArg Prod.fst a3
   have a5:(Vq r (Vp p.2 (X:=CsD r X) d).2).2=x:=congrArg Prod.snd a3
   have a6:(p.1,(Vp p.2 (X:=CsD r X) d).1)=q.1:=(W2 hi.symm a1).trans rfl
   exact W2 (congr (congrArg List.cons a6) a4) a5
  ·cases h2
theorem As0 {X:Type} {k:Option X}:∀ {l:List Pr} {rs:List Qp} {d:RsD l X},A0d k l rs=some d→∃ x,k=some x∧a8 l d=(rs,x)
 | [],rs,d,h=>by
  cases rs with
  | nil=>exact ⟨d,h,rfl⟩
  | cons l ls=>cases h
 | p::r,rs,d,h=>by
  simp only [A0d] at h
  obtain ⟨q,h1,h2⟩:=A6 h
  rw [A0e h1]
  obtain ⟨y,e1,e2⟩:=A1x (d:=d) h2
  obtain ⟨x,e3,e4⟩:=As0 e1
  refine ⟨x,e3,?_⟩
  show ((Xn p d).1::(a8 r (Xn p d).2).1,(a8 r (Xn p d).2).2)=_
  have e2':Xn p (X:=RsD r X) d=(q.1,y):=e2
  have a1:(Xn p (X:=RsD r X) d).1=q.1:=congrArg Prod.fst e2'
  have a2:(Xn p (X:=RsD r X) d).2=y:=congrArg Prod.snd e2'
  have a3:a8 r (Xn p (X:=RsD r X) d).2=(q.2,x):=(congrArg (a8 r) a2).trans e4
  have a4:(a8 r (Xn p (X:=RsD r X) d).2).1=q.2:=congrArg Prod.fst a3
  have a5:(a8 r (Xn p (X:=RsD r X) d).2).2=x:=congrArg Prod.snd a3
  exact W2 (congr (congrArg List.cons a1) a4) a5
def A0f:Lf→Bool
 | .c (.slice none 0 0)=>true
 | _=>false
def As1 (v:Vl) (i:Nat) (l:Lf):Vl:=match v with
 | .lf l0=>if i=0 then .lf l else .lf l0
 | .ag ls=>.ag (ls.set i l)
def As2 (ls:List Lf) (i:Nat):Bool:=match ls[i]? with
 | some l=>A0f l
 | none=>false
def A31 (id:Nat) (ls:List Lf) (i:Nat):Bool:=match ls[i]? with
 | some (.c (.pointer none))=>true
 | some (.ptr j 0)=>Nat.beq j id
 | _=>false
def A83 (t tt:Ty) (xs:List tt.D):Option (List (List t.D)):=if h:tt=.sl t then some (show List (Ty.sl t).D from h ▸ xs) else none
def Awo (s:St) (nid:Nat):Fx→Option (St×Nat)
 | .sl slot i t=>match s.cell slot with
  | .vl v=>if As2 v.ls i then some (s.setCell slot (.vl (As1 v i (.sl t []))),nid) else some (s.frz (v.ls[i]?).toList,nid)
  | _=>some (s,nid)
 | .row slot i e t=>match s.cell slot with
  | .vl v=>if As2 v.ls i then (match s.res nid with
   | .unborn=>some ((s.setRes nid (.row e t [])).setCell slot (.vl (As1 v i (.row nid))),nid + 1)
   | _=>none) else some (s,nid)
  | _=>some (s,nid)
 | .boxSl slot i t=>match s.cell slot with
  | .vl (.lf (.ptr id 0))=>match s.res id with
   | .box T ls=>if As2 ls i then some (s.setRes id (.box T (ls.set i (.sl t []))),nid) else some (s.frz (ls[i]?).toList,nid)
   | _=>some (s,nid)
  | _=>some (s,nid)
 | .boxRow slot i e t=>match s.cell slot with
  | .vl (.lf (.ptr id 0))=>match s.res id with
   | .box T ls=>if As2 ls i then (match s.res nid with
    | .unborn=>some ((s.setRes nid (.row e t [])).setRes id (.box T (ls.set i (.row nid))),nid + 1)
    | _=>none) else some (s,nid)
   | _=>some (s,nid)
  | _=>some (s,nid)
 | .self slot i=>match s.cell slot with
  | .vl (.lf (.ptr id 0))=>match s.res id with
   | .box T ls=>if A31 id ls i then some (s.setRes id (.box T (ls.set i (.sp id))),nid) else some (s,nid)
   | _=>some (s,nid)
  | _=>some (s,nid)
 | .last slot e1 t=>match s.cell slot with
  | .vl (.lf (.row id))=>match s.res id with
   | .row e tt xs=>match A83 t tt xs,s.res nid,s.res (nid + 1) with
    | some ys,.unborn,.unborn=>some (((Fo (s.setRes (nid + 1) (.row e1 t [])) (some id)).setRes nid (.last e t ys false (nid + 1))).setCell slot (.vl (.lf (.row nid))),nid + 2)
    | _,_,_=>none
   | _=>some (s,nid)
  | _=>some (s,nid)
def A0g (s:St) (nid:Nat):List Fx→Option (St×Nat)
 | []=>some (s,nid)
 | f::r=>(Awo s nid f).bind fun p=>A0g p.1 p.2 r
def Am6:List (Nat×Pv)→List Nat
 | []=>[]
 | p::r=>p.1::Am6 r
def A32 (np:Nat) (live:List Nat) (s:St):Option (List (Nat×AV)×List Qp):=
 let us:=Am4 s np live
 if S3 us&&Abu 0 np us then some (Auk s us live,Arc s us us) else none
def Du.mtch (np:Nat) (p:Du) (s:St) (nid:Nat):Option p.D:=
 (A0g s nid p.fx).bind fun q=>(A32 np (Am6 p.cs) q.1).bind fun l=>Awn (A0d (some ()) p.rs l.2) p.cs l.1
section
variable {P:Program} {n B:Nat} {Iq:List Nat} {s:St} {g:Gh} {a:Act} {w:World}
theorem Abv {ls:List Lf} {i:Nat} (h:As2 ls i=true):ls[i]? = some (.c (.slice none 0 0)):=by
 unfold As2 at h
 split at h
 ·rename_i l hl
  unfold A0f at h
  split at h
  ·exact hl
  ·cases h
 ·cases h
theorem A0h {s':St} {g':Gh} {v:Vl} {i:Nat} {l:Lf} {u:Value} (hv:VlR s' g' w v u) (hn:v.ls[i]? = some (.c (.slice none 0 0))) (hl:Dp s' g' w l (.slice none 0 0)):VlR s' g' w (As1 v i l) u:=by
 cases v with
 | lf l0=>
  unfold As1
  simp only
  split
  ·rename_i hi
   subst hi
   simp [Vl.ls] at hn
   subst hn
   obtain ⟨h1,h2⟩:=hv
   have h1':u=.slice none 0 0:=h1
   subst h1'
   exact ⟨hl,rfl⟩
  ·exact hv
 | ag ls=>
  obtain ⟨cs,e1,e2⟩:=hv
  obtain ⟨v0,q1,q2,q3⟩:=e2.get hn
  have q2':v0=.slice none 0 0:=q2
  subst q2'
  refine ⟨cs,e1,?_⟩
  have hset:cs.toList.set i (.slice none 0 0)=cs.toList:=by
   apply List.ext_getElem?
   intro j
   by_cases q:i=j
   ·subst q
    rw [List.getElem?_set_self (List.getElem?_eq_some_iff.1 q1).1,q1]
   ·rw [List.getElem?_set_ne q]
  have:=e2.set (j:=i) (v:=.slice none 0 0) hl rfl
  rw [hset] at this
  exact this
theorem As3 (s:St) (g:Gh) (w:World) (t:Ty):Dp s g w (.sl t []) (.slice none 0 0):=⟨none,0,rfl,Nat.le_refl _,fun i x hx=>by simp [nth] at hx⟩
theorem Aon (h:B5 n B Iq s g a w) {slot:Nat} {av:AV} (hv:Wz s g w av (a.tmps.getD slot undef)):B5 n B Iq (s.setCell slot av) g a w∧Go B Iq s g w (s.setCell slot av) g w:=by
 have hS:∀ b,Ev s g b→b < w.heap.size→Ev (s.setCell slot av) g b∧w.heap[b]? = w.heap[b]? := fun b hb _=>⟨hb,rfl⟩
 have hI:∀ id,Ay s g (s.setCell slot av) g id:=fun id=>Ay.same rfl rfl rfl
 refine ⟨h.step h.size h.defers (Nat.le_refl _) hS hI (fun i=>?_) (fun id=>.inl ⟨rfl,rfl,rfl,fun _ _=>rfl⟩) h.inj h.lt rfl,⟨Kp.refl B Iq w,hS,hI,rfl⟩⟩
 by_cases q:i=slot
 ·subst q
  right
  have:(s.setCell i av).cell i=av:=by simp [St.setCell]
  rw [this]
  exact Wz.step hS hI hv
 ·exact .inl ⟨by simp [St.setCell,Ax _ _ q],rfl⟩
theorem Aeo (h:B5 n B Iq s g a w) {nid:Nat} (hf:s.res nid=.unborn) (e:TypeId) (t:Ty):
  ∃ g',Go B Iq s g w (s.setRes nid (.row e t [])) g' w∧B5 n B Iq (s.setRes nid (.row e t [])) g' a w∧Dp (s.setRes nid (.row e t [])) g' w (.row nid) (.slice none 0 0):=by
 have hS:∀ b,Ev s g b→b < w.heap.size→Ev (s.setRes nid (.row e t [])) ⟨Vf g.blk nid none,Vf g.hdr nid (.slice none 0 0),g.av⟩ b∧w.heap[b]? = w.heap[b]? := by
  intro b hb _
  refine ⟨⟨hb.1,fun j hj hk=>?_⟩,rfl⟩
  by_cases q:j=nid
  ·subst q; simp at hk
  ·rw [Ap s _ q] at hj
   simp only [Ax _ _ q] at hk
   exact hb.2 j hj hk
 have hI:∀ j,Ay s g (s.setRes nid (.row e t [])) ⟨Vf g.blk nid none,Vf g.hdr nid (.slice none 0 0),g.av⟩ j:=by
  intro j
  by_cases q:j=nid
  ·subst q
   unfold Ay
   rw [hf]
   exact .inr trivial
  ·exact Ay.same (Ap s _ q) (by simp [Ax _ _ q]) (by simp [Ax _ _ q])
 refine ⟨_,⟨Kp.refl B Iq w,hS,hI,rfl⟩,h.step h.size h.defers (Nat.le_refl _) hS hI (fun i=>.inl ⟨rfl,rfl⟩) (fun j=>?_) (fun i j b hi hj=>?_) (fun i b hi=>?_) rfl,?_⟩
 ·by_cases q:j=nid
  ·subst q
   right
   rw [Ao]
   refine ⟨[],⟨by simp,.inl ⟨by simp,rfl⟩⟩,Ans _ _,by simp [Value.ownBlock]⟩
  ·left
   exact ⟨Ap s _ q,by simp [Ax _ _ q],by simp [Ax _ _ q],fun _ _=>rfl⟩
 ·by_cases q1:i=nid
  ·simp [q1] at hi
  ·by_cases q2:j=nid
   ·simp [q2] at hj
   ·simp only [Ax _ _ q1] at hi
    simp only [Ax _ _ q2] at hj
    exact h.inj i j b hi hj
 ·by_cases q1:i=nid
  ·simp [q1] at hi
  ·simp only [Ax _ _ q1] at hi
   exact h.lt i b hi
 ·simp only [Dp,Ao,A2]
theorem s9 (h:B5 n B Iq s g a w) {id:Nat} {T:TypeId} {ls:List Lf} {i:Nat} {l0 l:Lf} (hr:s.res id=.box T ls) (hn:ls[i]? = some l0) (hl:∀ u,Dp s g w l0 u→Dp s g w l u):
  B5 n B Iq (s.setRes id (.box T (ls.set i l))) g a w∧Go B Iq s g w (s.setRes id (.box T (ls.set i l))) g w:=by
 have hS:∀ b,Ev s g b→b < w.heap.size→Ev (s.setRes id (.box T (ls.set i l))) g b∧w.heap[b]? = w.heap[b]? := by
  intro b hb _
  refine ⟨⟨hb.1,fun j hj hk=>?_⟩,rfl⟩
  by_cases q:j=id
  ·subst q
   exact hb.2 j (by rw [hr]; rfl) hk
  ·rw [Ap s _ q] at hj
   exact hb.2 j hj hk
 have hI:∀ j,Ay s g (s.setRes id (.box T (ls.set i l))) g j:=by
  intro j
  by_cases q:j=id
  ·subst q
   unfold Ay
   rw [hr,Ao]
   exact .inr ⟨_,_,rfl,rfl⟩
  ·exact Ay.same (Ap s _ q) rfl rfl
 refine ⟨h.step h.size h.defers (Nat.le_refl _) hS hI (fun i=>.inl ⟨rfl,rfl⟩) (fun j=>?_) h.inj h.lt rfl,⟨Kp.refl B Iq w,hS,hI,rfl⟩⟩
 by_cases q:j=id
 ·subst q
  right
  rw [Ao]
  have r:=h.res j
  rw [hr] at r
  obtain ⟨b,cs,h1,h2,h3⟩:=r
  refine ⟨b,cs,h1,h2,Hl.step hS hI ?_⟩
  obtain ⟨v0,q1,q2,q3⟩:=h3.get hn
  have hset:cs.toList.set i v0=cs.toList:=by
   apply List.ext_getElem?
   intro k
   by_cases q:i=k
   ·subst q
    rw [List.getElem?_set_self (List.getElem?_eq_some_iff.1 q1).1,q1]
   ·rw [List.getElem?_set_ne q]
  have:=h3.set (j:=i) (v:=v0) (hl v0 q2) q3
  rw [hset] at this
  exact this
 ·exact .inl ⟨Ap s _ q,rfl,rfl,fun _ _=>rfl⟩
theorem Aoo (h:B5 n B Iq s g a w) {id:Nat} {T:TypeId} {ls:List Lf} {i:Nat} {l:Lf} (hr:s.res id=.box T ls) (hn:ls[i]? = some (.c (.slice none 0 0))) (hl:Dp s g w l (.slice none 0 0)):
  B5 n B Iq (s.setRes id (.box T (ls.set i l))) g a w∧Go B Iq s g w (s.setRes id (.box T (ls.set i l))) g w:=
 s9 h hr hn fun u hu=>by
  have hu:u=.slice none 0 0:=hu
  subst hu
  exact hl
theorem A55 (h:B5 n B Iq s g a w) {nid:Nat} {f:Fx} {s':St} {nid':Nat} (e:Awo s nid f=some (s',nid')):∃ g',B5 n B Iq s' g' a w∧Go B Iq s g w s' g' w:=by
 have fz:∀ ls,some (s.frz ls,nid)=some (s',nid')→∃ g',B5 n B Iq s' g' a w∧Go B Iq s g w s' g' w:=fun ls q=>by
  cases q
  obtain ⟨g',k1,k2,_⟩:=Fl (ls:=ls) h
  exact ⟨g',k1,k2⟩
 have stay:some (s,nid)=some (s',nid')→∃ g',B5 n B Iq s' g' a w∧Go B Iq s g w s' g' w:=fun q=>by cases q; exact ⟨g,h,Go.refl B Iq s g w⟩
 cases f with
 | sl slot i t=>
  simp only [Awo] at e
  split at e
  ·rename_i v hv
   split at e
   ·rename_i hn
    cases e
    have k:=h.cell slot
    rw [hv] at k
    exact ⟨g,Aon h (av:=.vl (As1 v i (.sl t []))) (A0h (w:=w) k (Abv hn) (As3 s g w t))⟩
   ·exact fz _ e
  ·exact stay e
 | row slot i e0 t=>
  simp only [Awo] at e
  split at e
  ·rename_i v hv
   split at e
   ·rename_i hn
    split at e
    ·rename_i hf
     cases e
     obtain ⟨g',k1,k2,k3⟩:=Aeo h hf e0 t
     have k:=k2.cell slot
     have hc:(s.setRes nid (.row e0 t [])).cell slot=.vl v:=hv
     rw [hc] at k
     obtain ⟨r1,r2⟩:=Aon k2 (av:=.vl (As1 v i (.row nid))) (A0h (w:=w) k (Abv hn) k3)
     exact ⟨g',r1,k1.trans r2⟩
    ·cases e
   ·exact stay e
  ·exact stay e
 | boxSl slot i t=>
  simp only [Awo] at e
  split at e
  ·rename_i id hv
   split at e
   ·rename_i T ls hr
    split at e
    ·rename_i hn
     cases e
     exact ⟨g,Aoo h hr (Abv hn) (As3 s g w t)⟩
    ·exact fz _ e
   ·exact stay e
  ·exact stay e
 | boxRow slot i e0 t=>
  simp only [Awo] at e
  split at e
  ·rename_i id hv
   split at e
   ·rename_i T ls hr
    split at e
    ·rename_i hn
     split at e
     ·rename_i hf
      cases e
      obtain ⟨g',k1,k2,k3⟩:=Aeo h hf e0 t
      have hne:id≠nid:=by rintro rfl; rw [hf] at hr; cases hr
      have hr':(s.setRes nid (.row e0 t [])).res id=.box T ls:=by rw [Ap s _ hne]; exact hr
      obtain ⟨r1,r2⟩:=Aoo k2 hr' (Abv hn) k3
      exact ⟨g',r1,k1.trans r2⟩
     ·cases e
    ·exact stay e
   ·exact stay e
  ·exact stay e
 | self slot i=>
  simp only [Awo] at e
  split at e
  ·rename_i id hv
   split at e
   ·rename_i T ls hr
    split at e
    ·rename_i hn
     cases e
     unfold A31 at hn
     split at hn
     ·rename_i hg
      refine ⟨g,s9 h hr hg fun u hu=>?_⟩
      simp only [Dp] at hu ⊢
      rw [hr]
      exact .inl hu
     ·rename_i j hg
      have hj:=Nat.eq_of_beq_eq_true hn
      subst hj
      refine ⟨g,s9 h hr hg fun u hu=>?_⟩
      simp only [Dp] at hu ⊢
      rw [hr] at hu ⊢
      exact .inr hu
     ·cases hn
    ·exact stay e
   ·exact stay e
  ·exact stay e
 | last slot e1 t=>
  simp only [Awo] at e
  split at e
  ·rename_i id hv
   split at e
   ·rename_i e0 tt xs hr
    split at e
    ·rename_i ys _ _ hys hf hf1
     cases e
     unfold A83 at hys
     split at hys<;>cases hys
     rename_i htt
     subst htt
     obtain ⟨g1,k1,k2,k3⟩:=Aeo h hf1 e1 t
     have hid1:id≠nid + 1:=fun q=>by rw [q,hf1] at hr; cases hr
     have hid0:id≠nid:=fun q=>by rw [q,hf] at hr; cases hr
     have hr1:(s.setRes (nid + 1) (.row e1 t [])).res id=.row e0 (.sl t) xs:=(Ap s _ hid1).trans hr
     have hf0:(s.setRes (nid + 1) (.row e1 t [])).res nid=.unborn:=(Ap s _ (by omega)).trans hf
     have r:=k2.res id
     rw [hr1] at r
     obtain ⟨cs,q1,q2,q3⟩:=r
     have hc:=k2.cell slot
     have hv1:(s.setRes (nid + 1) (.row e1 t [])).cell slot=.vl (.lf (.row id)):=hv
     rw [hv1] at hc
     obtain ⟨hc1,hc2⟩:=hc
     simp only [Dp,hr1] at hc1
     have hcl:cs.length=List.length xs:=by simpa [Ty.sz] using q1.1
     obtain ⟨m1,m2,m3,m4⟩:=k2.growR (o:=some id) hf0 (v:=g1.hdr id) (v':=g1.hdr id) (w':=w) (r:=.last e0 t xs false (nid + 1)) (fun j q=>by
      cases q
      exact ⟨by rw [hr1]; rfl,rfl,q3⟩) (fun q=>by cases q) (World.grownBy.refl w _) (.inl rfl) (fun b hb=>(k2.lt id b (q3.trans hb)).1) (fun hS _=>by
      refine ⟨cs,?_,?_,?_,fun u hq=>by cases hq⟩
      ·have e1:(g1.mv (some id) nid (g1.hdr id)).hdr nid=g1.hdr id:=by simp [Gh.mv]
       rw [e1]
       exact q1
      ·have e2:cs.take (@List.length (List t.D) xs)=cs:=List.take_of_length_le (Nat.le_of_eq hcl)
       have e3:=q2.keep hS
       rw [← e2] at e3
       exact e3
      ·simp [Gh.mv])
     have hcell:Wz ((Fo (s.setRes (nid + 1) (.row e1 t [])) (some id)).setRes nid (.last e0 t xs false (nid + 1))) (g1.mv (some id) nid (g1.hdr id)) w (.vl (.lf (.row nid))) (a.tmps.getD slot undef):=by
      refine ⟨?_,hc2⟩
      simp only [Dp,Ao]
      rw [hc1]
      simp [Gh.mv]
     obtain ⟨c1,c2⟩:=Aon m3 (slot:=slot) hcell
     exact ⟨_,c1,k1.trans (Go.trans ⟨m4,m1,m2,rfl⟩ c2)⟩
    ·cases e
   ·exact stay e
  ·exact stay e
theorem Awp:∀ {fx:List Fx} {s:St} {g:Gh} {nid:Nat} {s':St} {nid':Nat},B5 n B Iq s g a w→A0g s nid fx=some (s',nid')→∃ g',B5 n B Iq s' g' a w∧Go B Iq s g w s' g' w
 | [],s,g,nid,s',nid',h,e=>by cases e; exact ⟨g,h,Go.refl B Iq s g w⟩
 | f::r,s,g,nid,s',nid',h,e=>by
  simp only [A0g] at e
  obtain ⟨p,e1,e2⟩:=A6 e
  obtain ⟨g1,k1,k2⟩:=A55 h (s':=p.1) (nid':=p.2) e1
  obtain ⟨g2,k3,k4⟩:=Awp k1 e2
  exact ⟨g2,k3,k2.trans k4⟩
theorem A56 (h:B5 n B Iq s g a w) {np nid:Nat} {p:Du} {d:p.D} (e:p.mtch np s nid=some d):
  ∃ s1 g1 g',Go B Iq s g w s1 g1 w∧B5 n B Iq (p.st d) g' a w∧g'.av=g1.av∧∀ id,id < np→((p.st d).res id=.unborn→s1.res id=.unborn)∧(∀ T ls,(p.st d).res id=.box T ls→(∃ T' ls',s1.res id=.box T' ls')∧g'.blk id=g1.blk id)∧(∀ e,∀ t:Ty,∀ xs:List t.D,(p.st d).res id=.row e t xs→(∃ e',∃ xs':List t.D,s1.res id=.row e' t xs')∧g'.blk id=g1.blk id∧g'.hdr id=g1.hdr id):=by
 unfold Du.mtch at e
 obtain ⟨q,e1,e⟩:=A6 e
 obtain ⟨l,e2,e⟩:=A6 e
 obtain ⟨y,e3,e4⟩:=Asz e
 obtain ⟨z,e5,e6⟩:=As0 e3
 obtain ⟨g1,k1,k2⟩:=Awp h (s':=q.1) (nid':=q.2) e1
 have hst:p.st d=Awl l.1 l.2:=by
  unfold Du.st
  have e4':Vq p.cs (X:=RsD p.rs Unit) d=(l.1,y):=e4
  have a2:(Vq p.cs (X:=RsD p.rs Unit) d).2=y:=congrArg Prod.snd e4'
  have a3:a8 p.rs (Vq p.cs (X:=RsD p.rs Unit) d).2=(l.2,z):=(congrArg (a8 p.rs) a2).trans e6
  exact congr (congrArg Awl (congrArg Prod.fst e4')) (congrArg Prod.fst a3)
 have hc:canon np (Am6 p.cs) q.1=some (Awl l.1 l.2,(Am4 q.1 np (Am6 p.cs)).length):=by
  unfold A32 at e2
  unfold canon
  dsimp only at e2 ⊢
  split at e2
  ·rename_i hq
   rw [if_pos hq]
   cases e2
   rfl
  ·cases e2
 obtain ⟨g',r1,r2,r3⟩:=A3w k1 hc
 rw [hst]
 exact ⟨q.1,g1,g',k2,r1,r2,r3⟩
end
end
section
theorem Awq (p:prD):∀ l:List prD,(An4 p l).length=l.length + 1
 | []=>rfl
 | q::r=>by
  simp only [An4]
  cases ltK q p with
  | true=>simp only [cond_true,List.length_cons,Awq p r]
  | false=>rfl
theorem Abw:∀ l:List prD,(Xl l).length=l.length
 | []=>rfl
 | p::r=>by show (An4 p (Xl r)).length=r.length + 1; rw [Awq,Abw r]
structure As4 where
 pre:List Oper
 o2:Oper
 o3:Oper
 o4:Oper
 V:TypeId
 z:Operand
 d2:Nat
 d3:Nat
 fs:FuncId
def Am7 (o2 o3 o4:Oper):Option (TypeId×Operand×Nat×Nat×FuncId):=match o2.op,o2.dst,o2.guard,o3.dst,o3.guard,Of o4,o4.guard with
 | .makeInterface V z,some d2,none,some d3,none,some (fs,[.tmp p,.tmp q]),none=>if p=d2 then (if q=d3 then (if d2=d3 then none else some (V,z,d2,d3,fs)) else none) else none
 | _,_,_,_,_,_,_=>none
def Sx:List Oper→Option As4
 | [o0,o1,o2,o3,o4]=>match Am7 o2 o3 o4 with
  | some (V,z,d2,d3,fs)=>some ⟨[o0,o1],o2,o3,o4,V,z,d2,d3,fs⟩
  | none=>none
 | _=>none
def A33:AV→Option (FuncId×Nat)
 | .fn fc [.ptr b 0]=>some (fc,b)
 | _=>none
def Aop (BT:TypeId):Qp→Option Nat
 | .box T [.row r]=>if T=BT then some r else none
 | _=>none
def Auo:Option Lf→Option Nat
 | some (.row r)=>some r
 | _=>none
def A7g (P:Program) (T:Tb) (n:Nat) (s:St) (nid:Nat) (q:As4):Option (List Bool×St):=match T.srt with
 | some (fs,fc,BT,U,e)=>match Auo (s.leaf q.z) with
  | some r=>match S7 P T (s.put n q.o2.dst .dead) nid q.o3 with
   | some (av,s3)=>match A33 av with
    | some (fc',b)=>match Aop BT (s3.res b),Awm e prT (s3.res r) with
     | some r',some xs=>if Asm P q.V=true then (if fs=q.fs then (if fc'=fc then (if q.V=U then (if r'=r then (if q.d2 < n then (if q.d3 < n then some ([Jk xs,decide (xs.length≤1000)],((s3.put n q.o3.dst av).setRes r (.row e prT (Xl xs))).put n q.o4.dst (.tp [])) else none) else none) else none) else none) else none) else none) else none
     | _,_=>none
    | none=>none
   | none=>none
  | none=>none
 | none=>none
theorem Ayu {e:TypeId} {t:Ty} {v:Qp} {xs:List t.D} (h:Awm e t v=some xs):v=.row e t xs:=by
 unfold Awm at h
 split at h
 ·split at h
  ·rename_i he
   split at h
   ·rename_i ht
    cases h
    subst he ht
    rfl
   ·cases h
  ·cases h
 ·cases h
section
variable {P:Program} {n B:Nat} {Iq:List Nat} {s:St} {g:Gh} {a:Act} {w:World}
theorem Aup {o2 o3 o4:Oper} {V:TypeId} {z:Operand} {d2 d3:Nat} {fs:FuncId} (h:Am7 o2 o3 o4=some (V,z,d2,d3,fs)):
  o2.op=.makeInterface V z∧o2.dst=some d2∧o2.guard=none∧o3.dst=some d3∧o3.guard=none∧Of o4=some (fs,[.tmp d2,.tmp d3])∧o4.guard=none∧d2≠d3:=by
 unfold Am7 at h
 split at h
 ·rename_i h1 h2 h3 h4 h5 h6 h7
  split at h
  ·rename_i e1
   split at h
   ·rename_i e2
    split at h
    ·cases h
    ·rename_i e3
     cases h
     subst e1 e2
     exact ⟨h1,h2,h3,h4,h5,h6,h7,e3⟩
   ·cases h
  ·cases h
 ·cases h
theorem A0i {a:Act} {d:Nat} {v:Value} (h:d < a.tmps.size):(a.put (some d) v).tmps.getD d undef=v:=by
 simp [Act.put,Array.getD_eq_getD_getElem?,h]
theorem Ayv {a:Act} {d i:Nat} {v:Value} (h:i≠d):(a.put (some d) v).tmps.getD i undef=a.tmps.getD i undef:=by
 simp [Act.put,Array.getD_eq_getD_getElem?,Array.getElem?_setIfInBounds,h.symm]
theorem A1y (h:B5 n B Iq s g a w) {fs fc:FuncId} {BT U e:TypeId} (hok:A3f P fs fc BT U e) {b r:Nat} {xs:List prD} {bb:Nat} (hb:g.blk b=some bb) (hbox:s.res b=.box BT [.row r]) (hrow:s.res r=.row e prT xs)
  (hnd:Jk xs=true) (hlen:xs.length≤1000):Abt P fs #[.iface U (g.hdr r),.func (.func fc) #[] #[.pointer (some ⟨bb,0,none⟩)]] n B Iq s g a w (.tp []) (s.setRes r (.row e prT (Xl xs))):=by
 have kb:=h.res b
 rw [hbox] at kb
 obtain ⟨bb',ccs,hb',hh,hL⟩:=kb
 obtain rfl:bb=bb':=Option.some.inj (hb.symm.trans hb')
 have kr:=h.res r
 rw [hrow] at kr
 obtain ⟨cs,o1,o2,o3⟩:=kr
 obtain ⟨v0,hcs⟩:∃ v0,ccs=#[v0]:=by
  have:=hL.length
  match ccs,this with
  | ⟨[x]⟩,_=>exact ⟨x,rfl⟩
 subst hcs
 have hv0:v0=g.hdr r:=by
  have:=hL.1.1
  simp only [Dp,hrow] at this
  exact this
 subst hv0
 have hbr:b≠r:=fun q=>by rw [q,hrow] at hbox; cases hbox
 have hne:(g.hdr r).ownBlock≠some bb:=by
  rw [← o3]
  intro q
  exact hbr (h.inj b r bb hb q)
 have hlive:(s.res r).live=true:=by rw [hrow]; rfl
 refine Calls.mono (hok w bb (g.hdr r) xs cs hnd hlen (h.lt b bb hb).1 hh o1 (o2.imp fun _ _ _=>trivial) hne) fun en w'=>?_
 rintro ⟨rfl,hk,cs',p1,p2⟩
 have hmem:∀ c,c∈(g.hdr r).ownBlock.toList→g.blk r=some c:=fun c hc=>by
  simp only [Option.mem_toList] at hc
  rw [o3]; exact hc
 have hS:∀ c,Ev s g c→c < w.heap.size→Ev (s.setRes r (.row e prT (Xl xs))) g c∧w'.heap[c]? = w.heap[c]? := by
  intro c hc hc'
  refine ⟨⟨hc.1,fun j hj=>?_⟩,hk.block c hc' (fun q=>hc.2 r hlive (hmem c q))⟩
  by_cases q:j=r
  ·rw [q]; exact hc.2 r hlive
  ·rw [Ap s _ q] at hj; exact hc.2 j hj
 have hI:∀ j,Ay s g (s.setRes r (.row e prT (Xl xs))) g j:=by
  intro j
  by_cases q:j=r
  ·subst q
   unfold Ay
   rw [hrow]
   exact .inr (.inl ⟨_,_,Ao _ _ _,Abw xs,rfl,rfl⟩)
  ·exact Ay.same (Ap s _ q) rfl rfl
 refine ⟨.tuple #[],g,rfl,⟨hk.toKp h.base (fun c hc=>(h.lt r c (hmem c hc)).2.1),hS,hI,rfl⟩,?_,⟨#[],rfl,rfl,fun j v hv=>by simp at hv⟩⟩
 refine h.step h.size h.defers hk.size hS hI (fun i=>.inl ⟨rfl,rfl⟩) (fun j=>?_) h.inj (fun i c hi=>⟨Nat.lt_of_lt_of_le (h.lt i c hi).1 hk.size,(h.lt i c hi).2⟩) rfl
 by_cases q:j=r
 ·subst q
  right
  rw [Ao]
  exact ⟨cs',(show w'.ownsRow 0 e 2 (g.hdr j) (List.length (α:=prD) (Xl xs)) cs' by rw [Abw]; exact p1),p2 _,o3⟩
 ·exact .inl ⟨Ap s _ q,rfl,rfl,fun c hc=>hk.block c (h.lt j c hc).1 (fun q2=>q (h.inj j r c hc (hmem c q2)))⟩
end
end
end Go.Proofs.Ytfkefgbihlfjmaa.R
end
