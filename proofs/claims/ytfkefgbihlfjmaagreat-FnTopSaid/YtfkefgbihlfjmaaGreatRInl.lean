/- Calls that are entered in place, function values, and the two library functions that a builder needs. No condition. -/
import Derived.Test.YtfkefgbihlfjmaaGreatRTy
noncomputable section
set_option linter.unusedVariables false
set_option linter.unusedSimpArgs false
namespace Go.Proofs.YtfkefgbihlfjmaaGreat.R
open Go Go.RowKit
section
def V3 (o:Oper):Option (FuncId×List Operand):=match o.op with
 | .call c=>match c.callee with
  | .value (.func f)=>some (f,c.args.toList)
  | _=>none
 | _=>none
def Awt (s:St) (o:Oper):Option (FuncId×List Operand×List Lf):=match o.op with
 | .call c=>match c.callee with
  | .value (.tmp t)=>match s.cell t with
   | .fn f ls=>some (f,c.args.toList,ls)
   | _=>none
  | _=>none
 | _=>none
def Adi (s:St):List Operand→Option (List Vl)
 | []=>some []
 | x::r=>(s.value x).bind fun v=>(Adi s r).bind fun vs=>some (v::vs)
def Bus:List Lf→List Vl
 | []=>[]
 | l::r=>.lf l::Bus r
structure Tb where
 sd:FuncId→Option SD
 inl:FuncId→Option Func
 cc:Option (FuncId×TypeId)
 st:Option (FuncId×TypeId×TypeId)
 srt:Option (FuncId×FuncId×TypeId×TypeId×TypeId)
def Tb.of (sd:FuncId→Option SD):Tb:=⟨sd,fun _=>none,none,none,none⟩
def Hp (xs:List Int):Bool:=xs.all fun x=>decide (0≤x)&&decide (x < 256)
def Bxc (P:Program) (T:TypeId) (f:FuncId):Prop:=∀ (w:World) (b:Nat) (v:Value),
 (w.heap[b]? = some (.cells #[.pointer none,v] T (0,0))→Calls P f #[.pointer (some ⟨b,0,none⟩)] w fun e w'=>e=.returned (.tuple #[])∧Fb [b] w w'∧w'.heap[b]? = some (.cells #[.pointer (some ⟨b,0,none⟩),v] T (0,0)))∧
 (w.heap[b]? = some (.cells #[.pointer (some ⟨b,0,none⟩),v] T (0,0))→Calls P f #[.pointer (some ⟨b,0,none⟩)] w fun e w'=>e=.returned (.tuple #[])∧Fb [] w w')
def Bxd (P:Program) (T e:TypeId) (f:FuncId):Prop:=∀ (w:World) (b:Nat) (p v:Value) (xs:List Int) (cs:List Value),
 Hp xs=true→w.heap[b]? = some (.cells #[p,v] T (0,0))→w.ownsRow 0 e 1 v xs.length cs→L3 w (fun _=>True) (.int .u8) xs cs→v.ownBlock≠some b→
  Calls P f #[.pointer (some ⟨b,0,none⟩)] w fun e w'=>e=.returned (.string (strOfNums xs))∧Fb v.ownBlock.toList w w'
abbrev prT:Ty:=.pair .str (.pair .str .unit)
abbrev prD:=Aa×Aa×Unit
def ltK (a b:prD):Bool:=Op.bytesLess a.1.toList b.1.toList
def A4k (p:prD):List prD→List prD
 | []=>[p]
 | q::r=>bif ltK q p then q::A4k p r else p::q::r
def V4 (l:List prD):List prD:=l.foldr A4k []
def G0:List prD→Bool
 | []=>true
 | p::r=>!(r.any fun q=>q.1.toList==p.1.toList)&&G0 r
def Bgr (P:Program) (fs fc:FuncId) (BT U e:TypeId):Prop:=∀ (w:World) (b:Nat) (v:Value) (xs:List prD) (cs:List Value),
 G0 xs=true→xs.length≤1000→b < w.heap.size→w.heap[b]? = some (.cells #[v] BT (0,0))→w.ownsRow 0 e 2 v xs.length cs→L3 w (fun _=>True) prT xs cs→v.ownBlock≠some b→
  Calls P fs #[.iface U v,.func (.func fc) #[] #[.pointer (some ⟨b,0,none⟩)]] w fun en w'=>en=.returned (.tuple #[])∧Fb v.ownBlock.toList w w'∧∃ cs',w'.ownsRow 0 e 2 v xs.length cs'∧∀ S,L3 w' S prT (V4 xs) cs'
structure A2 (P:Program) (T:Tb):Prop where
 sd:∀ f sd,T.sd f=some sd→Qx P f∧Amx P f sd.sg sd.den
 inl : ∀ f fn, T.inl f = some fn → P.funcs[f]? = some fn ∧ (fn.name == "runtime.NumGoroutine") = false ∧ fn.body.isNone = false
 cc:∀ f BT,T.cc=some (f,BT)→Qx P f∧Bxc P BT f
 st:∀ f BT e,T.st=some (f,BT,e)→Qx P f∧Bxd P BT e f
 srt:∀ fs fc BT U e,T.srt=some (fs,fc,BT,U,e)→Qx P fs∧Bgr P fs fc BT U e
theorem A2.of {P:Program} {sd:FuncId→Option SD} (h:∀ f d,sd f=some d→Qx P f∧Amx P f d.sg d.den):A2 P (Tb.of sd):=
 ⟨h,fun _ _ q=>(by cases q),fun _ _ q=>(by cases q),fun _ _ _ q=>(by cases q),fun _ _ _ _ _ q=>(by cases q)⟩
def Bxe (T:Tb) (f:FuncId) (BT:TypeId):Bool:=match T.cc with
 | some (f',B')=>Nat.beq f' f&&Nat.beq B' BT
 | none=>false
def Byd (T:Tb) (f:FuncId) (BT:TypeId):Option TypeId:=match T.st with
 | some (f',B',e)=>bif Nat.beq f' f&&Nat.beq B' BT then some e else none
 | none=>none
def ccD (s:St) (id:Nat) (BT:TypeId) (l0 l1:Lf):Cd:=match l0 with
 | .c (.pointer none)=>some ([],.tp [],s.setRes id (.box BT [.ptr id 0,l1]))
 | .ptr j 0=>if j=id then some ([],.tp [],s) else none
 | .sp j=>if j=id then some ([],.tp [],s.setRes id (.box BT [.ptr id 0,l1])) else none
 | _=>none
def Br5 (T:Tb) (s:St) (f:FuncId) (vs:List Vl):Cd:=match vs with
 | [.lf (.ptr id 0)]=>match s.res id with
  | .box BT [l0,l1]=>bif Bxe T f BT then ccD s id BT l0 l1 else (match Byd T f BT with
   | some e=>(Agd s ⟨e,.int .u8,[],0⟩ l1).bind fun p=>some ([Hp p.2],.vl (.lf (.c (.string (strOfNums p.2)))),I1 s p.1)
   | none=>none)
  | _=>none
 | _=>none
def Bgs (s:St) (vs:List Vl):St:=⟨fun i=>match vs[i]? with | some v=>.vl v | none=>.dead,s.res⟩
def Br6 (P:Program) (T:Tb) (s:St) (nid:Nat) (o:Oper):Cd:=match V3 o with
 | some (f,xs)=>match Adi s xs with
  | some vs=>Br5 T s f vs
  | none=>none
 | none=>Agk P s nid o
def St.put (n:Nat) (s:St) (d:Option Tmp) (av:AV):St:=match d with
 | some d=>if Nat.blt d n then s.setCell d av else s
 | none=>s
def Bwr (s:St) (nid:Nat):Nat:=match s.res nid with
 | .unborn=>nid
 | _=>nid + 1
def Buu (P:Program) (T:Tb) (n:Nat):List Oper→Nat→St→Option (List Bool×St)
 | [],_,s=>some ([],s)
 | o::r,nid,s=>match o.guard with
  | some _=>none
  | none=>match Br6 P T s nid o with
   | some (cs,av,s')=>match Buu P T n r (Bwr s' nid) (s'.put n o.dst av) with
    | some (cs',s'')=>some (cs++cs',s'')
    | none=>none
   | none=>none
def Bce (P:Program) (T:Tb) (n:Nat):Code→Nat→St→Option (List Bool×Bool×St)
 | .skip,_,s=>some ([],false,s)
 | .region _ ops draw,nid,s=>bif draw then none else match Buu P T n ops.toList nid s with
  | some (cs,s')=>some (cs,false,s')
  | none=>none
 | .seq a b,nid,s=>match Bce P T n a nid s with
  | some (cs,true,s')=>some (cs,true,s')
  | some (cs,false,s')=>match Bce P T n b (Bwr s' nid) s' with
   | some (cs',r,s'')=>some (cs++cs',r,s'')
   | none=>none
  | none=>none
 | .cond c a b,nid,s=>match s.conc c with
  | some (.bool true)=>Bce P T n a nid s
  | some (.bool false)=>Bce P T n b nid s
  | _=>none
 | .ret,_,s=>some ([],true,s)
 | _,_,_=>none
def Zf (P:Program) (s:St):List ResultVar→Option (List Vl)
 | []=>some []
 | .tmp t::r=>match s.cell t with
  | .vl v=>(Zf P s r).map (v::·)
  | _=>none
 | .cell a t::r=>match A7d P s t (.tmp a) with
  | some v=>(Zf P s r).map (v::·)
  | none=>none
def Buv (P:Program) (T:Tb) (fn:Func) (vs:List Vl) (s:St) (nid:Nat):Cd:=match fn.body with
 | none=>none
 | some c=>bif Nat.ble vs.length fn.ntmps then (match Bce P T fn.ntmps c nid (Bgs s vs) with
  | some (cs,_,s')=>match Zf P s' fn.results.toList with
   | some vs'=>some (cs,Bl5 vs',⟨s.cell,s'.res⟩)
   | none=>none
  | none=>none) else none
def Aao (P:Program) (T:Tb) (s:St) (nid:Nat) (o:Oper):Option (AV×St):=match V3 o with
 | some (f,xs)=>match Adi s xs with
  | some vs=>match T.sd f with
   | some sd=>Aun sd.sg sd.den s nid vs
   | none=>match T.inl f with
    | some fn=>Up (Buv P T fn vs s nid)
    | none=>Up (Br5 T s f vs)
  | none=>none
 | none=>match Awt s o with
  | some (f,xs,ls)=>match Adi s xs with
   | some vs=>match T.sd f with
    | some sd=>Aun sd.sg sd.den s nid (vs++Bus ls)
    | none=>none
   | none=>none
  | none=>Up (Agk P s nid o)
section
variable {P:Program} {n B:Nat} {Iq:List Nat} {s:St} {g:Gh} {a:Act} {w:World}
theorem Aq3 (h:Cx n B Iq s g a w):∀ {xs:List Operand} {vs:List Vl},Adi s xs=some vs→VLR s g w vs (xs.map a.eval)
 | [],vs,e=>by cases e; trivial
 | x::r,vs,e=>by
  simp only [Adi] at e
  obtain ⟨v,e1,e⟩:=By e
  obtain ⟨vs',e2,e⟩:=By e
  cases e
  exact ⟨Ai8 h e1,Aq3 h e2⟩
theorem Awu {f:FuncId} (hc:Qx P f) (args:Array Value):(callFunc f args).run P w=.ok (.enter f args) w:=by
 obtain ⟨fn,h1,h2,h3⟩:=hc
 simp only [callFunc,Sem.run_bind,run_program,Result.andThen_ok,h1,h2,h3,Bool.false_eq_true,if_false]
 rfl
def Aq4 (P:Program) (f:FuncId) (args:Array Value) (n B:Nat) (Iq:List Nat) (s:St) (g:Gh) (a:Act) (w:World) (av:AV) (s':St):Prop:=
 Calls P f args w fun e w'=>∃ v g',e=.returned v∧Go B Iq s g w s' g' w'∧Cx n B Iq s' g' a w'∧AVR s' g' w' av v
theorem Fb.toKp {B:Nat} {Iq l:List Nat} {w w':World} (h:Fb l w w') (hB:B≤w.heap.size) (hl:∀ b∈l,b∈Iq∨B≤b):Kp B Iq w w':=
 ⟨h.os,h.tape,h.output,h.size,fun k hk hn=>h.block k (by omega) fun q=>by
  rcases hl k q with q | q
  ·exact hn q
  ·omega⟩
theorem Aap (s:St) (o:Option Nat) (j:Nat):(I1 s o).res j=if o=some j then .dead else s.res j:=by
 cases o with
 | none=>simp [I1]
 | some i=>
  simp only [I1,St.setRes,upd,Option.some.injEq]
  by_cases q:j=i
  ·rw [if_pos q,if_pos q.symm]
  ·rw [if_neg q,if_neg (fun e=>q e.symm)]
theorem Bog {T:Tb} (hs:A2 P T) (h:Cx n B Iq s g a w) {f:FuncId} {vs:List Vl} {args:List Value} (hv:VLR s g w vs args) {cs:List Bool} {av:AV} {s':St} (e:Br5 T s f vs=some (cs,av,s')) (hcs:b9 cs=true):
  Qx P f∧Aq4 P f args.toArray n B Iq s g a w av s':=by
 unfold Br5 at e
 split at e
 ·rename_i id
  split at e
  ·rename_i BT l0 l1 hr
   match args,hv with
   | [u],hv=>
   have hl:=hv.1.1
   simp only [Fy,hr] at hl
   obtain ⟨b,hb,hu⟩:=hl
   subst hu
   have r:=h.res id
   rw [hr] at r
   obtain ⟨b',cs,hb',hh,hL⟩:=r
   obtain rfl:b=b':=Option.some.inj (hb.symm.trans hb')
   obtain ⟨v0,v1,hcs⟩:∃ v0 v1,cs=#[v0,v1]:=by
    have:=hL.length
    match cs,this with
    | ⟨[x,y]⟩,_=>exact ⟨x,y,rfl⟩
   subst hcs
   have hL0:=hL.1
   have hL1:=hL.2.1
   have hlive:(s.res id).live=true:=by rw [hr]; rfl
   have hlt:=h.lt id b hb
   cases hcc:Bxe T f BT with
   | true=>
    rw [hcc] at e
    simp only [cond_true] at e
    have hT:T.cc=some (f,BT):=by
     unfold Bxe at hcc
     split at hcc
     ·rename_i f' B' hq
      simp only [Bool.and_eq_true] at hcc
      rw [hq,Nat.eq_of_beq_eq_true hcc.1,Nat.eq_of_beq_eq_true hcc.2]
     ·cases hcc
    obtain ⟨hcal,hok⟩:=hs.cc f BT hT
    refine ⟨hcal,?_⟩
    have become:∀ {p0:Value},Calls P f #[.pointer (some ⟨b,0,none⟩)] w (fun e w'=>e=.returned (.tuple #[])∧Fb [b] w w'∧w'.heap[b]? = some (.cells #[.pointer (some ⟨b,0,none⟩),v1] BT (0,0)))→
      Aq4 P f #[.pointer (some ⟨b,0,none⟩)] n B Iq s g a w (.tp []) (s.setRes id (.box BT [.ptr id 0,l1])):=by
     intro p0 hcx
     refine Calls.mono hcx fun en w'=>?_
     rintro ⟨rfl,hk,hh'⟩
     have hS:∀ c,Ho s g c→c < w.heap.size→Ho (s.setRes id (.box BT [.ptr id 0,l1])) g c∧w'.heap[c]? = w.heap[c]? := by
      intro c hc hc'
      refine ⟨⟨hc.1,fun j hj=>?_⟩,hk.block c hc' (by simp only [List.mem_singleton]; rintro rfl; exact hc.2 id hlive hb)⟩
      by_cases q:j=id
      ·rw [q]; exact hc.2 id hlive
      ·rw [Az s _ q] at hj; exact hc.2 j hj
     have hI:∀ j,Bo s g (s.setRes id (.box BT [.ptr id 0,l1])) g j:=by
      intro j
      by_cases q:j=id
      ·subst q
       unfold Bo
       rw [hr]
       exact .inr ⟨_,_,Ay _ _ _,rfl⟩
      ·exact Bo.same (Az s _ q) rfl rfl
     refine ⟨.tuple #[],g,rfl,⟨hk.toKp h.base (fun c hc=>by simp only [List.mem_singleton] at hc; subst hc; exact hlt.2.1),hS,hI,rfl⟩,?_,⟨#[],rfl,rfl,fun j v hv=>by simp at hv⟩⟩
     refine h.step h.size h.defers hk.size hS hI (fun i=>.inl ⟨rfl,rfl⟩) (fun j=>?_) h.inj (fun i c hi=>⟨Nat.lt_of_lt_of_le (h.lt i c hi).1 hk.size,(h.lt i c hi).2⟩) rfl
     by_cases q:j=id
     ·subst q
      right
      rw [Ay]
      refine ⟨b,_,hb,hh',⟨?_,rfl⟩,⟨Fy.step hS hI hL1.1,hL1.2⟩,trivial⟩
      simp only [Fy,Ay]
      exact ⟨b,hb,rfl⟩
     ·exact .inl ⟨Az s _ q,rfl,rfl,fun c hc=>hk.block c (h.lt j c hc).1 (by simp only [List.mem_singleton]; rintro rfl; exact q (h.inj j id c hc hb))⟩
    unfold ccD at e
    split at e
    ·cases e
     have h0:v0=.pointer none:=hL0.1
     subst h0
     exact become (p0:=undef) ((hok w b v1).1 hh)
    ·rename_i j
     split at e<;>cases e
     rename_i hj
     subst hj
     have h0:=hL0.1
     simp only [Fy,hr] at h0
     obtain ⟨b2,e1,e2⟩:=h0
     obtain rfl:b=b2:=Option.some.inj (hb.symm.trans e1)
     subst e2
     refine Calls.mono ((hok w b v1).2 hh) fun en w'=>?_
     rintro ⟨rfl,hk⟩
     have hS:∀ c,Ho s g c→c < w.heap.size→Ho s g c∧w'.heap[c]? = w.heap[c]? := fun c hc hc'=>⟨hc,hk.block c hc' (by simp)⟩
     have hI:∀ j,Bo s g s g j:=fun _=>Bo.same rfl rfl rfl
     refine ⟨.tuple #[],g,rfl,⟨hk.toKp h.base (fun c hc=>by simp at hc),hS,hI,rfl⟩,?_,⟨#[],rfl,rfl,fun j v hv=>by simp at hv⟩⟩
     exact h.step h.size h.defers hk.size hS hI (fun i=>.inl ⟨rfl,rfl⟩) (fun j=>.inl ⟨rfl,rfl,rfl,fun c hc=>hk.block c (h.lt j c hc).1 (by simp)⟩) h.inj (fun i c hi=>⟨Nat.lt_of_lt_of_le (h.lt i c hi).1 hk.size,(h.lt i c hi).2⟩) rfl
    ·rename_i j
     split at e<;>cases e
     rename_i hj
     subst hj
     have h0:=hL0.1
     simp only [Fy,hr] at h0
     rcases h0 with h0 | ⟨b2,e1,e2⟩
     ·subst h0
      exact become (p0:=undef) ((hok w b v1).1 hh)
     ·obtain rfl:b=b2:=Option.some.inj (hb.symm.trans e1)
      subst e2
      refine become (p0:=undef) (Calls.mono ((hok w b v1).2 hh) fun en w'=>?_)
      rintro ⟨rfl,hk⟩
      exact ⟨rfl,⟨hk.os,hk.tape,hk.output,hk.size,fun k q _=>hk.block k q (by simp)⟩,(hk.block b hlt.1 (by simp)).trans hh⟩
    ·cases e
   | false=>
    rw [hcc] at e
    simp only [cond_false] at e
    split at e
    ·rename_i ety hst
     have hT:T.st=some (f,BT,ety):=by
      unfold Byd at hst
      split at hst
      ·rename_i f' B' e' hq
       cases hc:(Nat.beq f' f&&Nat.beq B' BT) with
       | false=>rw [hc] at hst; cases hst
       | true=>
        rw [hc] at hst
        simp only [Bool.and_eq_true] at hc
        cases hst
        rw [hq,Nat.eq_of_beq_eq_true hc.1,Nat.eq_of_beq_eq_true hc.2]
      ·cases hst
     obtain ⟨hcal,hok⟩:=hs.st f BT ety hT
     refine ⟨hcal,?_⟩
     obtain ⟨p,e1,e⟩:=By e
     cases e
     have hbytes:Hp p.2=true:=by simpa [b9] using hcs
     obtain ⟨⟨cs1,o1,o2⟩,k2,k3⟩:=Amy h.res e1 hL1.1
     have hne:v1.ownBlock≠some b:=by
      rw [k2]
      intro q
      cases hp:p.1 with
      | none=>rw [hp] at q; cases q
      | some j=>
       rw [hp] at q
       have:j=id:=h.inj j id b q hb
       subst this
       obtain ⟨e',r1,_⟩:=Bd8 e1 j hp
       rw [hr] at r1
       cases r1
     refine Calls.mono (hok w b v0 v1 p.2 cs1 hbytes hh o1 (o2.imp fun _ _ _=>trivial) hne) fun en w'=>?_
     rintro ⟨rfl,hk⟩
     rw [k2] at hk
     let g':Gh:=⟨fun j=>if p.1=some j then none else g.blk j,g.hdr,g.av⟩
     have hgb:∀ j c,g'.blk j=some c→g.blk j=some c∧p.1≠some j:=by
      intro j c q
      by_cases hq:p.1=some j
      ·have:g'.blk j=none:=if_pos hq
       rw [this] at q
       cases q
      ·have:g'.blk j=g.blk j:=if_neg hq
       exact ⟨by rw [← this]; exact q,hq⟩
     have hmem:∀ c,c∈(p.1.bind g.blk).toList→∃ j,p.1=some j∧g.blk j=some c:=by
      intro c hc
      simp only [Option.mem_toList] at hc
      obtain ⟨j,q1,q2⟩:=By hc
      exact ⟨j,q1,q2⟩
     have hS:∀ c,Ho s g c→c < w.heap.size→Ho (I1 s p.1) g' c∧w'.heap[c]? = w.heap[c]? := by
      intro c hc hc'
      refine ⟨⟨hc.1,fun j hj hk'=>?_⟩,hk.block c hc' (fun q=>?_)⟩
      ·obtain ⟨q1,q2⟩:=hgb j c hk'
       rw [Aap,if_neg q2] at hj
       exact hc.2 j hj q1
      ·obtain ⟨j,q1,q2⟩:=hmem c q
       exact hc.2 j (k3 j q1) q2
     have hI:∀ j,Bo s g (I1 s p.1) g' j:=by
      intro j
      by_cases q:p.1=some j
      ·exact .inl (by rw [Aap,if_pos q])
      ·exact Bo.same (by rw [Aap,if_neg q]) (if_neg q) rfl
     refine ⟨_,g',rfl,⟨hk.toKp h.base (fun c hc=>?_),hS,hI,rfl⟩,?_,⟨rfl,rfl⟩⟩
     ·obtain ⟨j,q1,q2⟩:=hmem c hc
      exact (h.lt j c q2).2.1
     ·refine h.step h.size h.defers hk.size hS hI (fun i=>.inl ⟨by cases p.1<;>rfl,rfl⟩) (fun j=>?_) (fun i j c hi hj=>h.inj i j c (hgb i c hi).1 (hgb j c hj).1) (fun i c hi=>?_) rfl
      ·by_cases q:p.1=some j
       ·right
        rw [Aap,if_pos q]
        exact if_pos q
       ·left
        refine ⟨by rw [Aap,if_neg q],if_neg q,rfl,fun c hc=>hk.block c (h.lt j c hc).1 (fun q2=>?_)⟩
        obtain ⟨j',q3,q4⟩:=hmem c q2
        exact q (by rw [q3,h.inj j' j c q4 hc])
      ·obtain ⟨q1,_⟩:=hgb i c hi
       exact ⟨Nat.lt_of_lt_of_le (h.lt i c q1).1 hk.size,(h.lt i c q1).2⟩
    ·cases e
  ·cases e
 ·cases e
theorem A6l (n:Nat) (s:St) (d:Option Tmp) (av:AV):(s.put n d av).res=s.res:=by
 cases d with
 | none=>rfl
 | some d=>unfold St.put; simp only; split<;>rfl
theorem Ug (h:Cx n B Iq s g a w) {av:AV} {v:Value} (d:Option Tmp) (hv:AVR s g w av v):Cx n B Iq (s.put n d av) g (a.put d v) w∧Go B Iq s g w (s.put n d av) g w:=by
 have hr:=A6l n s d av
 have hS:∀ b,Ho s g b→b < w.heap.size→Ho (s.put n d av) g b∧w.heap[b]? = w.heap[b]? := by
  intro b hb _
  refine ⟨⟨hb.1,fun id hl=>?_⟩,rfl⟩
  rw [hr] at hl
  exact hb.2 id hl
 have hI:∀ id,Bo s g (s.put n d av) g id:=fun id=>Bo.same (by rw [hr]) rfl rfl
 refine ⟨h.step ?_ ?_ (Nat.le_refl _) hS hI (fun i=>?_) (fun id=>.inl ⟨by rw [hr],rfl,rfl,fun _ _=>rfl⟩) h.inj h.lt rfl,⟨Kp.refl B Iq w,hS,hI,rfl⟩⟩
 ·cases d with
  | none=>exact h.size
  | some d=>simp [Act.put,h.size]
 ·cases d with
  | none=>exact h.defers
  | some d=>exact h.defers
 ·cases d with
  | none=>exact .inl ⟨rfl,rfl⟩
  | some d=>
   by_cases hdn:Nat.blt d n=true
   ·have hlt:d < a.tmps.size:=by rw [h.size]; exact Nat.le_of_ble_eq_true hdn
    by_cases q:i=d
    ·subst q
     right
     have hc:(s.put n (some i) av).cell i=av:=by simp [St.put,St.setCell,hdn]
     rw [hc]
     have hv':AVR (s.put n (some i) av) g w av v:=AVR.step hS hI hv
     have:(a.put (some i) v).tmps.getD i undef=v:=by simp [Act.put,Array.getD,hlt]
     rw [this]
     exact hv'
    ·left
     refine ⟨by simp [St.put,St.setCell,hdn,Bl _ _ q],?_⟩
     simp [Act.put,Array.getD_eq_getD_getElem?,Array.getElem?_setIfInBounds_ne (Ne.symm q)]
   ·have hge:a.tmps.size≤d:=by
     rw [h.size]
     rcases Nat.lt_or_ge d n with q | q
     ·exact absurd (Nat.ble_eq_true_of_le q) hdn
     ·exact q
    left
    refine ⟨by simp [St.put,hdn],?_⟩
    simp [Act.put,Array.setIfInBounds_eq_of_size_le hge]
theorem V1.call {f:FuncId} {xs:List Operand} {o:Oper} (hc:V3 o=some (f,xs)) (hcal:Qx P f) {av:AV} {s':St} (h:Aq4 P f (xs.map a.eval).toArray n B Iq s g a w av s'):V1 P n B Iq s g a w o av s':=by
 obtain ⟨dst,op,type,pos,after,guard⟩:=o
 unfold V3 at hc
 split at hc
 ·rename_i c hop
  split at hc<;>cases hc
  rename_i hcallee
  obtain ⟨callee,args,argTypes⟩:=c
  simp only at hop hcallee
  subst hop hcallee
  intro K Q hK
  unfold Oper.wp
  rw [execOp_call_go,Awu hcal,Oper.upon_enter]
  have hargs:(#[]++args.map a.eval++#[]:Array Value)=(args.toList.map a.eval).toArray:=by
   apply Array.toList_inj.1
   simp
  rw [hargs]
  refine Calls.mono h fun en w'=>?_
  rintro ⟨v,g',rfl,k1,k2,k3⟩
  exact hK v g' w' k1 k2 k3
 ·cases hc
theorem Br7 {T:Tb} (hs:A2 P T) (h:Cx n B Iq s g a w) {nid:Nat} {o:Oper} {cs:List Bool} {av:AV} {s':St} (e:Br6 P T s nid o=some (cs,av,s')) (hcs:b9 cs=true):V1 P n B Iq s g a w o av s':=by
 unfold Br6 at e
 split at e
 ·rename_i f xs hc
  split at e
  ·rename_i vs hvs
   obtain ⟨k1,k2⟩:=Bog hs h (Aq3 h hvs) e hcs
   exact V1.call hc k1 k2
  ·cases e
 ·exact Bi6 h (by rw [e]; simp [Up,hcs])
theorem A27 {a b:List Bool}:b9 (a++b)=true→b9 a=true∧b9 b=true:=by
 induction a with
 | nil=>intro h; exact ⟨rfl,h⟩
 | cons x r ih=>
  intro h
  simp only [List.cons_append,b9,Bool.and_eq_true] at h ⊢
  exact ⟨⟨h.1,(ih h.2).1⟩,(ih h.2).2⟩
theorem Boh {T:Tb} (hs:A2 P T) {ops:Array Oper} {Q:Exit→Act→World→Prop}:∀ {l:List Oper} {nid:Nat} {s:St} {g:Gh} {a:Act} {w:World} {cs:List Bool} {s':St},
  Buu P T n l nid s=some (cs,s')→b9 cs=true→Cx n B Iq s g a w→(∀ g' a' w',Go B Iq s g w s' g' w'→Cx n B Iq s' g' a' w'→Q .normal a' w')→wpList P ops Q l a w
 | [],nid,s,g,a,w,cs,s',e,hcs,h,hk=>by cases e; exact hk g a w (Go.refl _ _ _ _ _) h
 | o::l,nid,s,g,a,w,cs,s',e,hcs,h,hk=>by
  simp only [Buu] at e
  split at e
  ·cases e
  ·rename_i hg
   split at e
   ·rename_i cs1 av s1 e1
    split at e
    ·rename_i cs2 s2 e2
     cases e
     obtain ⟨b1,b2⟩:=A27 hcs
     unfold wpList
     have hw:Region.wanted o (yielded ops a.tmps)=true:=by unfold Region.wanted; rw [hg]
     rw [hw,if_pos rfl]
     left
     refine Br7 hs h e1 b1 _ Q fun v g' w' k1 k2 k3=>?_
     obtain ⟨r1,r2⟩:=Ug k2 o.dst k3
     exact Boh hs e2 b2 r1 fun g2 a2 w2 q1 q2=>hk g2 a2 w2 ((k1.trans r2).trans q1) q2
    ·cases e
   ·cases e
def Byy (r:Bool):Exit:=bif r then .ret else .normal
theorem Buw {T:Tb} (hs:A2 P T):∀ (c:Code) {nid:Nat} {s:St} {g:Gh} {a:Act} {w:World} {cs:List Bool} {r:Bool} {s':St} {Q:Exit→Act→World→Prop},
  Bce P T n c nid s=some (cs,r,s')→b9 cs=true→Cx n B Iq s g a w→(∀ g' a' w',Go B Iq s g w s' g' w'→Cx n B Iq s' g' a' w'→Q (Byy r) a' w')→c.wp P Q a w:=by
 intro c
 induction c with
 | skip=>intro nid s g a w cs r s' Q e hcs h hk; cases e; exact wp_skip (hk g a w (Go.refl _ _ _ _ _) h)
 | region id ops draw=>
  intro nid s g a w cs r s' Q e hcs h hk
  simp only [Bce] at e
  cases draw with
  | true=>cases e
  | false=>
   simp only [cond_false] at e
   split at e
   ·rename_i cs1 s1 e1
    cases e
    exact wp_region_list (Boh hs e1 hcs h hk)
   ·cases e
 | seq x y ihx ihy=>
  intro nid s g a w cs r s' Q e hcs h hk
  simp only [Bce] at e
  split at e
  ·rename_i cs1 s1 e1
   cases e
   exact wp_seq (ihx e1 hcs h fun g' a' w' k1 k2=>hk g' a' w' k1 k2)
  ·rename_i cs1 s1 e1
   split at e
   ·rename_i cs2 r2 s2 e2
    cases e
    obtain ⟨b1,b2⟩:=A27 hcs
    exact wp_seq (ihx e1 b1 h fun g' a' w' k1 k2=>ihy e2 b2 k2 fun g2 a2 w2 q1 q2=>hk g2 a2 w2 (k1.trans q1) q2)
   ·cases e
  ·cases e
 | cond c x y ihx ihy=>
  intro nid s g a w cs r s' Q e hcs h hk
  simp only [Bce] at e
  split at e
  ·rename_i ht
   exact wp_cond_true (Fc h ht).1 (ihx e hcs h hk)
  ·rename_i ht
   exact wp_cond_false (Fc h ht).1 (ihy e hcs h hk)
  ·cases e
 | ret=>intro nid s g a w cs r s' Q e hcs h hk; cases e; exact wp_ret (hk g a w (Go.refl _ _ _ _ _) h)
 | _=>intros; rename_i e _ _ _; first | (cases e; done) | (simp [Bce] at e; done)
theorem Am3 (h:Cx n B Iq s g a w):∀ {rv:List ResultVar} {vs:List Vl},Zf P s rv=some vs→
  ∃ us,(rv.mapM fun x:ResultVar=>(match x with | .tmp t=>pure (a.tmps.getD t undef) | .cell b t=>do loadVar t (← asAddr (a.tmps.getD b undef)):Sem Value)).run P w=.ok us w∧VLR s g w vs us
 | [],vs,e=>by cases e; exact ⟨[],by simp,trivial⟩
 | .tmp t::r,vs,e=>by
  simp only [Zf] at e
  split at e
  ·rename_i v hv
   obtain ⟨vs',e1,rfl⟩:=Option.map_eq_some_iff.1 e
   obtain ⟨us,k1,k2⟩:=Am3 h e1
   have k:=h.cell t
   rw [hv] at k
   refine ⟨a.tmps.getD t undef::us,?_,k,k2⟩
   simp only [List.mapM_cons,Sem.run_bind,Sem.run_pure,Result.andThen_ok]
   rw [k1]
   rfl
  ·cases e
 | .cell b t::r,vs,e=>by
  simp only [Zf] at e
  split at e
  ·rename_i v hv
   obtain ⟨vs',e1,rfl⟩:=Option.map_eq_some_iff.1 e
   obtain ⟨us,k1,k2⟩:=Am3 h e1
   unfold A7d at hv
   obtain ⟨l,q1,hv⟩:=By hv
   obtain ⟨ls,q2,hv⟩:=By hv
   obtain ⟨hl,_⟩:=E7 h q1
   obtain ⟨ad,cs,hu,hL,hc⟩:=Bw6 h q2 hl
   obtain ⟨u,hr,hvv⟩:=Ai9 hv hL hc
   have hu':a.tmps.getD b undef=.pointer (some ad):=hu
   refine ⟨u::us,?_,hvv,k2⟩
   simp only [List.mapM_cons,Sem.run_bind,hu']
   have ha:(asAddr (.pointer (some ad)):Sem Addr).run P w=.ok ad w:=by simp [asAddr]
   rw [ha]
   simp only [Result.andThen_ok,hr,k1]
   rfl
  ·cases e
theorem A28 (h:Cx n B Iq s g a w) {fn:Func} {vs:List Vl} (e:Zf P s fn.results.toList=some vs):∃ us,(results fn a.tmps).run P w=.ok (Bgd us) w∧VLR s g w vs us:=by
 obtain ⟨us,k1,k2⟩:=Am3 h e
 refine ⟨us,?_,k2⟩
 unfold results
 rw [Array.mapM_eq_mapM_toList]
 simp only [Sem.run_bind,Sem.run_map]
 refine Eq.trans (congrArg (fun r:Result (List Value)=>(r.andThen fun a w'=>Result.ok a.toArray w').andThen fun a w'=>Sem.run P (pure (if h:a.size=1 then a[0] else Value.tuple a)) w') k1) ?_
 clear k1 k2
 match us with
 | []=>rfl
 | [u]=>rfl
 | u::v::us=>rfl
theorem Bux {T:Tb} (hs:A2 P T) (h:Cx n B Iq s g a w) {f:FuncId} {fn:Func} (hf:P.funcs[f]? = some fn) {vs:List Vl} {args:List Value} (hv:VLR s g w vs args) {nid:Nat} {av:AV} {s':St}
  (e:Up (Buv P T fn vs s nid)=some (av,s')):Aq4 P f args.toArray n B Iq s g a w av s':=by
 obtain ⟨cs,e,hcs⟩:=Dz e
 unfold Buv at e
 split at e
 ·cases e
 ·rename_i c hb
  cases hle:Nat.ble vs.length fn.ntmps with
  | false=>rw [hle] at e; cases e
  | true=>
   rw [hle] at e
   simp only [cond_true] at e
   have hle:=Nat.le_of_ble_eq_true hle
   split at e
   ·rename_i cs1 r1 s1 e1
    split at e
    ·rename_i vs' e2
     cases e
     have hlen:=hv.length
     have hent:Cx fn.ntmps B Iq (Bgs s vs) g { tmps:=args.toArray++Array.replicate (fn.ntmps - args.toArray.size) undef,defers:=[] } w:=by
      refine ⟨by simp; omega,rfl,h.base,fun i=>?_,fun id=>?_,h.inj,h.lt,h.avB⟩
      ·show AVR _ _ _ (match vs[i]? with | some v=>.vl v | none=>.dead) _
       cases hi:vs[i]? with
       | none=>trivial
       | some v=>
        obtain ⟨u,q1,q2⟩:=hv.get hi
        have hlt:=(List.getElem?_eq_some_iff.1 q1).1
        have:(args.toArray++Array.replicate (fn.ntmps - args.toArray.size) undef).getD i undef=u:=by
         rw [Array.getD_eq_getD_getElem?,Array.getElem?_append_left (by simpa using hlt),List.getElem?_toArray,q1]
         rfl
        rw [this]
        exact VlR.step (s:=s) (s':=Bgs s vs) (g:=g) (g':=g) (w:=w) (w':=w) (fun b hb _=>⟨hb,rfl⟩) (fun _=>Bo.same rfl rfl rfl) q2
      ·exact Sr.step (s:=s) (s':=Bgs s vs) (g:=g) (g':=g) (w:=w) (w':=w) (fun b hb _=>⟨hb,rfl⟩) (fun _=>Bo.same rfl rfl rfl) rfl rfl (fun _ _=>rfl) (h.res id)
     refine calls_of_wp hf hb ?_
     refine Buw hs c e1 hcs hent fun g' a' w' k1 k2=>?_
     obtain ⟨us,q1,q2⟩:=A28 k2 e2
     have hgo:Go B Iq s g w ⟨s.cell,s1.res⟩ g' w':=⟨k1.kp,fun b hb hl=>k1.S b hb hl,fun id=>k1.ref id,k1.av⟩
     have hrel:Cx n B Iq ⟨s.cell,s1.res⟩ g' a w':=by
      refine h.step h.size h.defers k1.kp.size (fun b hb hl=>hgo.S b hb hl) (fun id=>hgo.ref id) (fun i=>.inl ⟨rfl,rfl⟩) (fun id=>.inr ?_) k2.inj (fun i b hi=>⟨(k2.lt i b hi).1,(k2.lt i b hi).2.1,by rw [← k1.av]; exact (k2.lt i b hi).2.2⟩) k1.av
      exact Sr.step (s:=s1) (s':=⟨s.cell,s1.res⟩) (g:=g') (g':=g') (w:=w') (w':=w') (fun b hb _=>⟨hb,rfl⟩) (fun _=>Bo.same rfl rfl rfl) rfl rfl (fun _ _=>rfl) (k2.res id)
     have hav:AVR ⟨s.cell,s1.res⟩ g' w' (Bl5 vs') (Bgd us):=AVR.step (s:=s1) (s':=⟨s.cell,s1.res⟩) (g:=g') (g':=g') (w:=w') (w':=w') (fun b hb _=>⟨hb,rfl⟩) (fun _=>Bo.same rfl rfl rfl) (Brz q2)
     cases r1
     ·exact ⟨k2.defers,_,q1,_,g',rfl,hgo,hrel,hav⟩
     ·exact ⟨k2.defers,_,q1,_,g',rfl,hgo,hrel,hav⟩
    ·cases e
   ·cases e
theorem Br8:∀ {ls:List Lf} {cs:List Value},L1 s g w ls cs→VLR s g w (Bus ls) cs
 | [],[],_=>trivial
 | [],_::_,h=>h.elim
 | _::_,[],h=>h.elim
 | _::_,_::_,h=>⟨h.1,Br8 h.2⟩
theorem VLR.append:∀ {vs vs':List Vl} {us us':List Value},VLR s g w vs us→VLR s g w vs' us'→VLR s g w (vs++vs') (us++us')
 | [],_,[],_,_,h'=>h'
 | [],_,_::_,_,h,_=>h.elim
 | _::_,_,[],_,h,_=>h.elim
 | _::_,_,_::_,_,h,h'=>⟨h.1,VLR.append h.2 h'⟩
theorem Am4 {sigs:Tb} (hs:A2 P sigs) (h:Cx n B Iq s g a w) {nid:Nat} {o:Oper} {av:AV} {s':St} (e:Aao P sigs s nid o=some (av,s')):V1 P n B Iq s g a w o av s':=by
 unfold Aao at e
 split at e
 ·rename_i f xs hc
  split at e
  ·rename_i vs hvs
   have hV:=Aq3 h hvs
   split at e
   ·rename_i sd hsd
    obtain ⟨hcal,hsound⟩:=hs.sd f sd hsd
    exact V1.call hc hcal (Bea h hsound hV e)
   ·split at e
    ·rename_i fn hfn
     obtain ⟨q1,q2,q3⟩:=hs.inl f fn hfn
     exact V1.call hc ⟨fn,q1,q2,q3⟩ (Bux hs h q1 hV e)
    ·obtain ⟨cs,e1,hcs⟩:=Dz e
     obtain ⟨q1,q2⟩:=Bog hs h hV e1 hcs
     exact V1.call hc q1 q2
  ·cases e
 ·split at e
  ·rename_i f xs ls hc
   split at e
   ·rename_i vs hvs
    split at e
    ·rename_i sd hsd
     obtain ⟨hcal,hsound⟩:=hs.sd f sd hsd
     obtain ⟨dst,op,type,pos,after,guard⟩:=o
     unfold Awt at hc
     split at hc
     ·rename_i c hop
      split at hc
      ·rename_i t hcallee
       split at hc<;>cases hc
       rename_i hcell
       obtain ⟨callee,args,argTypes⟩:=c
       simp only at hop hcallee
       subst hop hcallee
       have k:=h.cell t
       rw [hcell] at k
       obtain ⟨caps,hu,hL⟩:=k
       have hu':a.eval (.tmp t)=.func (.func f) #[] caps:=hu
       intro K Q hK
       unfold Oper.wp
       have hex:execOp a.eval ⟨dst,.call ⟨.value (.tmp t),args,argTypes⟩,type,pos,after,guard⟩=callFunc f (#[]++args.map a.eval++caps):=by
        simp only [execOp,resolve,hu',Deferred.ofValue]
        rfl
       rw [hex,Awu hcal,Oper.upon_enter]
       have hargs:(#[]++args.map a.eval++caps:Array Value)=(args.toList.map a.eval++caps.toList).toArray:=by
        apply Array.toList_inj.1
        simp
       rw [hargs]
       refine Calls.mono (Bea h hsound (VLR.append (Aq3 h hvs) (Br8 hL)) e) fun en w'=>?_
       rintro ⟨v,g',rfl,k1,k2,k3⟩
       exact hK v g' w' k1 k2 k3
      ·cases hc
     ·cases hc
    ·cases e
   ·cases e
  ·exact Bi6 h e
end
end
section
def Aus:Lf→List Nat
 | .row id=>[id]
 | .ptr id _=>[id]
 | .rp id _ _=>[id]
 | .sp id=>[id]
 | _=>[]
def Ajh:List Lf→List Nat
 | []=>[]
 | l::r=>Aus l++Ajh r
def A7z (v:Vl):List Nat:=Ajh v.ls
def A6m:List Vl→List Nat
 | []=>[]
 | v::r=>A7z v++A6m r
def V5:AV→List Nat
 | .dead=>[]
 | .vl v=>A7z v
 | .tp vs=>A6m vs
 | .fn _ ls=>Ajh ls
def Aji:Ze→List Nat
 | .box _ ls=>Ajh ls
 | _=>[]
def A70:Ze→List Nat
 | .last _ _ _ _ j=>[j]
 | _=>[]
def Sv:List Operand→List Nat
 | []=>[]
 | .tmp t::r=>t::Sv r
 | _::r=>Sv r
def Gm (o:Oper):List Nat:=Sv o.op.operands.toList
def Ry (l:List Nat) (i:Nat):Bool:=match l with
 | []=>false
 | j::r=>Nat.beq j i || Ry r i
theorem Eb {l:List Nat} {i:Nat}:Ry l i=true↔i∈l:=by
 induction l with
 | nil=>simp [Ry]
 | cons j r ih=>
  simp only [Ry,Bool.or_eq_true,ih,List.mem_cons,Nat.beq_eq]
  constructor
  ·rintro (h | h)
   ·exact .inl h.symm
   ·exact .inr h
  ·rintro (h | h)
   ·exact .inl h.symm
   ·exact .inr h
def M7 (s:St):List Nat→List Nat
 | []=>[]
 | i::r=>V5 (s.cell i)++M7 s r
def Qd (s:St):List Nat→List Nat
 | []=>[]
 | i::r=>Aji (s.res i)++Qd s r
def Awv (s:St) (sl:List Nat):List Nat:=
 let l0:=M7 s sl
 let l1:=l0++Qd s l0
 l1++Qd s l1
def Aut (s:St):List Nat→List Nat
 | []=>[]
 | i::r=>A70 (s.res i)++Aut s r
def V6 (o:Oper):Bool:=match o.op with
 | .move x=>!A26 x
 | .assign x=>!A26 x
 | .indexAddr _ _ _=>true
 | .call c=>(match c.callee with
  | .builtin .len=>true
  | _=>false)
 | _=>false
def Bcf (o:Oper):Bool:=match o.op with
 | .move x=>!A26 x
 | .assign x=>!A26 x
 | _=>false
theorem Br9 {o:Oper} (h:Bcf o=true):V6 o=true:=by
 unfold Bcf at h
 unfold V6
 split at h
 ·rename_i q; rw [q]; exact h
 ·rename_i q; rw [q]; exact h
 ·cases h
def Aaq (s:St) (o:Oper):List Nat:=if Bcf o then [] else if V6 o then Awv s (Gm o) else Awv s (Gm o)++Aut s (Awv s (Gm o))
def Aww (l m:List Nat):Bool:=match l with
 | []=>true
 | i::r=>Ry m i&&Aww r m
theorem A0m {l m:List Nat}:Aww l m=true↔∀ i∈l,i∈m:=by
 induction l with
 | nil=>simp [Aww]
 | cons j r ih=>simp [Aww,Eb,ih]
def A4l:Nat:=4
def Vx (nid:Nat):List Nat:=[nid,nid + 1,nid + 2,nid + 3]
def St.view (s:St) (sl ids:List Nat):St:=⟨fun i=>if Ry sl i then s.cell i else .dead,fun id=>if Ry ids id then s.res id else .unborn⟩
def St.lay (s v:St) (m:List Nat):St:=⟨s.cell,fun id=>if Ry m id then v.res id else s.res id⟩
def x5 (o:Oper) (s:St) (m:List Nat):Bool:=Aww (Qd s m) m&&(V6 o || Aww (Aut s m) m)
def Asq (P:Program) (sigs:Tb) (s:St) (nid:Nat) (o:Oper):Option (AV×St):=
 let sl:=Gm o
 let ids:=Aaq s o
 if Ya s nid A4l then (if x5 o s ids then (Aao P sigs (s.view sl ids) nid o).bind fun p=>
  if Bcf o || Aww (V5 p.1) (ids++Vx nid) then (if x5 o p.2 (ids++Vx nid) then some p else none) else none
 else none) else none
section
variable {P:Program} {n B:Nat} {Iq:List Nat} {s:St} {g:Gh} {a:Act} {w:World}
theorem Am5 (h:∀ id,Sr s g w id (s.res id)) {id b:Nat} (hb:g.blk id=some b):(s.res id).live=true:=by
 have r:=h id
 cases hr:s.res id with
 | box T ls=>rfl
 | row e t xs=>rfl
 | unborn=>rw [hr] at r; exact absurd (hb.symm.trans r) (by simp)
 | dead=>rw [hr] at r; exact absurd (hb.symm.trans r) (by simp)
 | frozen t xs=>rw [hr] at r; exact absurd (hb.symm.trans r.2) (by simp)
 | last _ _ _ _ _=>rfl
 | map _ _=>rfl
 | iter _ _ _ _=>rfl
theorem Fy.part {s s':St} {g g':Gh} {w:World} {m:List Nat} (hS:∀ b,Ho s g b→b < w.heap.size→Ho s' g' b) (hm:∀ id∈m,s'.res id=s.res id∧g'.blk id=g.blk id∧g'.hdr id=g.hdr id):
  ∀ {l:Lf} {u:Value},(∀ id∈Aus l,id∈m)→Fy s g w l u→Fy s' g' w l u
 | .c _,_,_,h=>h
 | .sl _ _,_,_,h=>Ty.K_keep (fun b hb hl=>⟨hS b hb hl,rfl⟩) h
 | .row id,u,hi,h=>by
  obtain ⟨e1,e2,e3⟩:=hm id (hi id (by simp [Aus]))
  simp only [Fy] at h ⊢
  rw [e1,e3]
  exact h
 | .ptr id off,u,hi,h=>by
  obtain ⟨e1,e2,e3⟩:=hm id (hi id (by simp [Aus]))
  simp only [Fy] at h ⊢
  rw [e1,e2]
  exact h
 | .ep t xs i off,u,_,⟨ad,cs,h1,h2,h3,h4,h5⟩=>⟨ad,cs,h1,hS _ h2 h3,h3,Ty.K_keep (fun b hb hl=>⟨hS b hb hl,rfl⟩) h4,h5⟩
 | .rp id i off,u,hi,h=>by
  obtain ⟨e1,e2,e3⟩:=hm id (hi id (by simp [Aus]))
  simp only [Fy] at h ⊢
  rw [e1,e2]
  exact h
 | .sp id,u,hi,h=>by
  obtain ⟨e1,e2,e3⟩:=hm id (hi id (by simp [Aus]))
  simp only [Fy] at h ⊢
  rw [e1,e2]
  exact h
section
variable {s':St} {g':Gh} {m:List Nat} (hS:∀ b,Ho s g b→b < w.heap.size→Ho s' g' b) (hm:∀ id∈m,s'.res id=s.res id∧g'.blk id=g.blk id∧g'.hdr id=g.hdr id)
 include hS hm
theorem L1.part:∀ {ls:List Lf} {cs:List Value},(∀ id∈Ajh ls,id∈m)→L1 s g w ls cs→L1 s' g' w ls cs
 | [],[],_,_=>trivial
 | [],_::_,_,h=>h.elim
 | _::_,[],_,h=>h.elim
 | l::ls,_::_,hi,h=>⟨⟨Fy.part hS hm (fun id q=>hi id (by simp [Ajh,q])) h.1.1,h.1.2⟩,L1.part (fun id q=>hi id (by simp [Ajh,q])) h.2⟩
theorem VlR.part {v:Vl} {u:Value} (hi:∀ id∈A7z v,id∈m) (h:VlR s g w v u):VlR s' g' w v u:=by
 cases v with
 | lf l=>exact ⟨Fy.part hS hm (fun id q=>hi id (by simp [A7z,Vl.ls,Ajh,q])) h.1,h.2⟩
 | ag ls=>
  obtain ⟨cs,e,hL⟩:=h
  exact ⟨cs,e,L1.part hS hm hi hL⟩
theorem AVR.part {v:AV} {u:Value} (hi:∀ id∈V5 v,id∈m) (h:AVR s g w v u):AVR s' g' w v u:=by
 cases v with
 | dead=>trivial
 | vl v=>exact VlR.part hS hm hi h
 | tp vs=>
  obtain ⟨us,h1,h2,h3⟩:=h
  refine ⟨us,h1,h2,fun j l hl=>?_⟩
  obtain ⟨v,e1,e2⟩:=h3 j l hl
  refine ⟨v,e1,VlR.part hS hm (fun id q=>hi id ?_) e2⟩
  have hmem:=List.mem_of_getElem? hl
  clear h1 h2 h3 hl e1 e2 hi
  induction vs with
  | nil=>cases hmem
  | cons x r ih=>
   rcases List.mem_cons.1 hmem with rfl | hmem
   ·simp [V5,A6m,q]
   ·have:=ih hmem
    simp only [V5,A6m,List.mem_append] at this ⊢
    exact .inr this
 | fn f ls=>
  obtain ⟨cs,h1,h2⟩:=h
  exact ⟨cs,h1,L1.part hS hm hi h2⟩
theorem Sr.part {id:Nat} (hid:id∈m) {r:Ze} (hi:∀ j∈Aji r,j∈m) (hwk:∀ j∈A70 r,j∈m) (h:Sr s g w id r):Sr s' g' w id r:=by
 obtain ⟨e1,e2,e3⟩:=hm id hid
 cases r with
 | unborn=>exact e2.trans h
 | dead=>exact e2.trans h
 | box T ls=>
  obtain ⟨b,cs,h1,h2,h3⟩:=h
  exact ⟨b,cs,e2.trans h1,h2,L1.part hS hm hi h3⟩
 | row e t xs=>
  obtain ⟨cs,h1,h2,h3⟩:=h
  exact ⟨cs,by rw [e3]; exact h1,h2.imp hS,by rw [e2,e3]; exact h3⟩
 | frozen t xs=>
  obtain ⟨h1,h2⟩:=h
  exact ⟨by rw [e3]; exact Ty.K_keep (fun b hb hl=>⟨hS b hb hl,rfl⟩) h1,e2.trans h2⟩
 | last e t xs c j=>
  obtain ⟨cs,h1,h2,h3,h4⟩:=h
  obtain ⟨q1,q2,q3⟩:=hm j (hwk j (by simp [A70]))
  refine ⟨cs,by rw [e3]; exact h1,h2.imp hS,by rw [e2,e3]; exact h3,fun u hc hu=>?_⟩
  rw [q1,q3]
  exact h4 u hc hu
 | map t xs=>
  obtain ⟨b,es,clock,h1,h2,h3⟩:=h
  exact ⟨b,es,clock,e2.trans h1,e3.trans h2,h3⟩
 | iter t xs seen cur=>
  obtain ⟨b,r,es,clock,since,c0,sn,h1,h2,h3,h4,h5,h6⟩:=h
  exact ⟨b,r,es,clock,since,c0,sn,e2.trans h1,e3.trans h2,h3,hS b h4 h5,h5,h6⟩
end
theorem A71 {i id:Nat}:∀ {l:List Nat},i∈l→id∈A70 (s.res i)→id∈Aut s l
 | j::r,h,q=>by
  rcases List.mem_cons.1 h with rfl | h
  ·exact List.mem_append_left _ q
  ·exact List.mem_append_right _ (A71 h q)
def Gh.view (s:St) (g:Gh) (ids:List Nat):Gh:=⟨fun id=>if Ry ids id then g.blk id else none,g.hdr,fun b=>g.av b∨∃ id,id ∉ ids∧g.blk id=some b⟩
theorem Asr {i id:Nat}:∀ {sl:List Nat},i∈sl→id∈V5 (s.cell i)→id∈M7 s sl
 | j::r,h,q=>by
  rcases List.mem_cons.1 h with rfl | h
  ·exact List.mem_append_left _ q
  ·exact List.mem_append_right _ (Asr h q)
theorem A29 {i id:Nat}:∀ {l:List Nat},i∈l→id∈Aji (s.res i)→id∈Qd s l
 | j::r,h,q=>by
  rcases List.mem_cons.1 h with rfl | h
  ·exact List.mem_append_left _ q
  ·exact List.mem_append_right _ (A29 h q)
theorem Bsa {sl ids:List Nat} (b:Nat) (hb:Ho s g b) (hres:∀ id,Sr s g w id (s.res id)):Ho (s.view sl ids) (g.view s ids) b:=by
 refine ⟨?_,fun id hl hk=>?_⟩
 ·rintro (q | ⟨id,q1,q2⟩)
  ·exact hb.1 q
  ·exact hb.2 id (Am5 hres q2) q2
 ·simp only [Gh.view] at hk
  split at hk
  ·rename_i hid
   exact hb.2 id (Am5 hres hk) hk
  ·cases hk
theorem Bsb (h:Cx n B Iq s g a w) {sl ids:List Nat} (hc:∀ i∈sl,∀ id∈V5 (s.cell i),id∈ids) (hr:∀ i∈ids,∀ id∈Aji (s.res i),id∈ids) (hw:∀ i∈ids,∀ id∈A70 (s.res i),id∈ids):
  Cx n w.heap.size (ids.filterMap g.blk) (s.view sl ids) (g.view s ids) a w:=by
 have hS:∀ b,Ho s g b→b < w.heap.size→Ho (s.view sl ids) (g.view s ids) b:=fun b hb _=>Bsa b hb h.res
 have hm:∀ id∈ids,(s.view sl ids).res id=s.res id∧(g.view s ids).blk id=g.blk id∧(g.view s ids).hdr id=g.hdr id:=by
  intro id hid
  have:=Eb.2 hid
  refine ⟨?_,?_,rfl⟩
  ·simp [St.view,this]
  ·simp [Gh.view,this]
 refine ⟨h.size,h.defers,Nat.le_refl _,fun i=>?_,fun id=>?_,fun id id' b q1 q2=>?_,fun id b q=>?_,fun b q=>?_⟩
 ·show AVR _ _ _ (if Ry sl i then s.cell i else .dead) _
  split
  ·rename_i hi
   exact AVR.part hS hm (hc i (Eb.1 hi)) (h.cell i)
  ·trivial
 ·by_cases hid:id∈ids
  ·rw [(hm id hid).1]
   exact Sr.part hS hm hid (hr id hid) (hw id hid) (h.res id)
  ·have hf:Ry ids id=false:=by
    cases hq:Ry ids id
    ·rfl
    ·exact absurd (Eb.1 hq) hid
   have:(s.view sl ids).res id=.unborn:=by simp [St.view,hf]
   rw [this]
   show (g.view s ids).blk id=none
   simp [Gh.view,hf]
 ·simp only [Gh.view] at q1 q2
  split at q1
  ·split at q2
   ·exact h.inj id id' b q1 q2
   ·cases q2
  ·cases q1
 ·simp only [Gh.view] at q
  split at q
  ·rename_i hid
   have hid:=Eb.1 hid
   refine ⟨(h.lt id b q).1,.inl (List.mem_filterMap.2 ⟨id,hid,q⟩),?_⟩
   rintro (q2 | ⟨j,q2,q3⟩)
   ·exact (h.lt id b q).2.2 q2
   ·exact q2 (by rw [h.inj j id b q3 q]; exact hid)
  ·cases q
 ·rcases q with q | ⟨id,q1,q2⟩
  ·have:=h.avB b q
   have:=h.base
   omega
  ·exact (h.lt id b q2).1
theorem Bi7 {l m:List Nat} (h:Aww (Qd s l) m=true):∀ i∈l,∀ id∈Aji (s.res i),id∈m:=
 fun i hi id hid=>A0m.1 h id (A29 hi hid)
theorem A3a {sl:List Nat}:∀ i∈sl,∀ id∈V5 (s.cell i),id∈Awv s sl:=
 fun i hi id hid=>List.mem_append_left _ (List.mem_append_left _ (Asr hi hid))
theorem Auu {nid:Nat} (h:Ya s nid A4l=true):∀ id∈Vx nid,s.res id=.unborn:=by
 intro id hid
 have:nid≤id∧id < nid + 4:=by
  simp only [Vx,List.mem_cons,List.not_mem_nil,or_false] at hid
  omega
 exact A7p h id this.1 this.2
theorem Bxf (h:Cx n B Iq s g a w) {sl ids:List Nat} {nid:Nat} {v':St} {gv':Gh} {w':World} {av:AV} (hfr:∀ id∈Vx nid,s.res id=.unborn)
  (hgo:Go w.heap.size (ids.filterMap g.blk) (s.view sl ids) (g.view s ids) w v' gv' w') (hR:Cx n w.heap.size (ids.filterMap g.blk) v' gv' a w')
  (hav:∀ id∈V5 av,id∈ids++Vx nid) (hres:∀ i∈ids++Vx nid,∀ id∈Aji (v'.res i),id∈ids++Vx nid) (hwk:∀ i∈ids++Vx nid,∀ id∈A70 (v'.res i),id∈ids++Vx nid):
  ∃ g',Go B Iq s g w (s.lay v' (ids++Vx nid)) g' w'∧Cx n B Iq (s.lay v' (ids++Vx nid)) g' a w'∧∀ u,AVR v' gv' w' av u→AVR (s.lay v' (ids++Vx nid)) g' w' av u:=by
 generalize hm:ids++Vx nid=m at hav hres hwk ⊢
 have hidm:∀ id∈ids,id∈m:=fun id q=>by rw [← hm]; exact List.mem_append_left _ q
 have hmem:∀ id∈m,id∈ids∨id∈Vx nid:=fun id q=>by rw [← hm] at q; exact List.mem_append.1 q
 have hin:∀ id,Ry m id=true↔id∈m:=fun id=>Eb
 have hout:∀ {id},id ∉ m→Ry m id=false:=fun {id} q=>by
  cases hq:Ry m id
  ·rfl
  ·exact absurd ((hin id).1 hq) q
 refine ⟨⟨fun id=>if Ry m id then gv'.blk id else g.blk id,fun id=>if Ry m id then gv'.hdr id else g.hdr id,g.av⟩,?_⟩
 generalize hg':(⟨fun id=>if Ry m id then gv'.blk id else g.blk id,fun id=>if Ry m id then gv'.hdr id else g.hdr id,g.av⟩:Gh)=g'
 generalize hs':s.lay v' m=s'
 have e1:∀ id∈m,s'.res id=v'.res id∧g'.blk id=gv'.blk id∧g'.hdr id=gv'.hdr id:=by
  intro id hid
  have:=(hin id).2 hid
  subst hs' hg'
  simp [St.lay,this]
 have e2:∀ id,id ∉ m→s'.res id=s.res id∧g'.blk id=g.blk id∧g'.hdr id=g.hdr id:=by
  intro id hid
  have:=hout hid
  subst hs' hg'
  simp [St.lay,this]
 have ecell:s'.cell=s.cell:=by subst hs'; rfl
 have eav:g'.av=g.av:=by subst hg'; rfl
 have eavv:gv'.av=(g.view s ids).av:=hgo.av
 have liveBlk:∀ id b,g.blk id=some b→(s.res id).live=true:=fun id b q=>Am5 h.res q
 have hS2:∀ b,Ho v' gv' b→b < w'.heap.size→Ho s' g' b:=by
  rintro b ⟨q1,q2⟩ _
  rw [eavv] at q1
  refine ⟨by rw [eav]; exact fun q=>q1 (.inl q),fun id hl hk=>?_⟩
  by_cases hid:id∈m
  ·obtain ⟨a1,a2,a3⟩:=e1 id hid
   rw [a1] at hl
   rw [a2] at hk
   exact q2 id hl hk
  ·obtain ⟨a1,a2,a3⟩:=e2 id hid
   rw [a2] at hk
   exact q1 (.inr ⟨id,fun q=>hid (hidm id q),hk⟩)
 have hS:∀ b,Ho s g b→b < w.heap.size→Ho s' g' b∧w'.heap[b]? = w.heap[b]? := by
  intro b hb hlt
  obtain ⟨k1,k2⟩:=hgo.S b (Bsa b hb h.res) hlt
  exact ⟨hS2 b k1 (Nat.lt_of_lt_of_le hlt hgo.kp.size),k2⟩
 have hI:∀ id,Bo s g s' g' id:=by
  intro id
  by_cases hid:id∈m
  ·obtain ⟨a1,a2,a3⟩:=e1 id hid
   rcases hmem id hid with q | q
   ·have r:=hgo.ref id
    unfold Bo at r ⊢
    have hq:=Eb.2 q
    have v1:(s.view sl ids).res id=s.res id:=by simp [St.view,hq]
    have v2:(g.view s ids).blk id=g.blk id:=by simp [Gh.view,hq]
    rw [v1,v2] at r
    rw [a1,a2,a3]
    exact r
   ·unfold Bo
    rw [hfr id q]
    exact .inr trivial
  ·obtain ⟨a1,a2,a3⟩:=e2 id hid
   exact Bo.same a1 a2 a3
 have hKp:Kp B Iq w w':=⟨hgo.kp.os,hgo.kp.tape,hgo.kp.output,hgo.kp.size,fun k hk hkI=>by
  refine hgo.kp.block k (Nat.lt_of_lt_of_le hk h.base) (fun q=>?_)
  obtain ⟨id,q1,q2⟩:=List.mem_filterMap.1 q
  rcases (h.lt id k q2).2.1 with q3 | q3
  ·exact hkI q3
  ·omega⟩
 refine ⟨⟨hKp,hS,hI,eav⟩,?_,fun u hu=>AVR.part hS2 e1 hav hu⟩
 refine h.step h.size h.defers hgo.kp.size hS hI (fun i=>.inl ⟨by rw [ecell],rfl⟩) (fun j=>?_) (fun i j b hi hj=>?_) (fun i b hi=>?_) eav
 ·by_cases hj:j∈m
  ·right
   rw [(e1 j hj).1]
   exact Sr.part hS2 e1 hj (hres j hj) (hwk j hj) (hR.res j)
  ·left
   obtain ⟨a1,a2,a3⟩:=e2 j hj
   refine ⟨a1,a2,a3,fun b hb=>hgo.kp.block b (h.lt j b hb).1 (fun q=>?_)⟩
   obtain ⟨id,q1,q2⟩:=List.mem_filterMap.1 q
   exact hj (by rw [h.inj j id b hb q2]; exact hidm id q1)
 ·have far:∀ i j b,i∈m→g'.blk i=some b→j ∉ m→g'.blk j=some b→False:=by
   intro i j b him hi hjm hj
   rw [(e1 i him).2.1] at hi
   rw [(e2 j hjm).2.1] at hj
   refine (hR.lt i b hi).2.2 ?_
   rw [eavv]
   exact .inr ⟨j,fun q=>hjm (hidm j q),hj⟩
  by_cases him:i∈m<;>by_cases hjm:j∈m
  ·rw [(e1 i him).2.1] at hi
   rw [(e1 j hjm).2.1] at hj
   exact hR.inj i j b hi hj
  ·exact (far i j b him hi hjm hj).elim
  ·exact (far j i b hjm hj him hi).elim
  ·rw [(e2 i him).2.1] at hi
   rw [(e2 j hjm).2.1] at hj
   exact h.inj i j b hi hj
 ·by_cases him:i∈m
  ·rw [(e1 i him).2.1] at hi
   obtain ⟨k1,k2,k3⟩:=hR.lt i b hi
   rw [eavv] at k3
   refine ⟨k1,?_,fun q=>k3 (.inl q)⟩
   rcases k2 with k2 | k2
   ·obtain ⟨id,q1,q2⟩:=List.mem_filterMap.1 k2
    exact (h.lt id b q2).2.1
   ·exact .inr (Nat.le_trans h.base k2)
  ·rw [(e2 i him).2.1] at hi
   obtain ⟨k1,k2⟩:=h.lt i b hi
   exact ⟨Nat.lt_of_lt_of_le k1 hgo.kp.size,k2⟩
theorem Bej {o:Oper} {m:List Nat} (h:x5 o s m=true):(∀ i∈m,∀ id∈Aji (s.res i),id∈m)∧(V6 o=false→∀ i∈m,∀ id∈A70 (s.res i),id∈m):=by
 simp only [x5,Bool.and_eq_true,Bool.or_eq_true] at h
 refine ⟨Bi7 h.1,fun hl i hi id hid=>?_⟩
 rcases h.2 with q | q
 ·rw [hl] at q; cases q
 ·exact A0m.1 q id (A71 hi hid)
theorem A72 {o:Oper} (hm:Bcf o=false):∀ i∈Gm o,∀ id∈V5 (s.cell i),id∈Aaq s o:=fun i hi id hid=>by
 unfold Aaq
 rw [hm]
 simp only [Bool.false_eq_true,if_false]
 split
 ·exact A3a i hi id hid
 ·exact List.mem_append_left _ (A3a i hi id hid)
section
variable {s t:St}
theorem Awx {x:Operand} (h:∀ i∈Sv [x],s.cell i=t.cell i):s.op x=t.op x:=by
 cases x with
 | tmp i=>exact h i (by simp [Sv])
 | const v=>rfl
 | global _=>rfl
 | func _=>rfl
theorem Bek {x:Operand} (h:s.op x=t.op x):s.leaf x=t.leaf x:=by unfold St.leaf; rw [h]
theorem A0n {x:Operand} (h:s.op x=t.op x):s.conc x=t.conc x:=by unfold St.conc; rw [h]
theorem Bi8 {x:Operand} {id:Nat} (h:s.leaf x=some (.row id)):∃ i∈Sv [x],id∈V5 (s.cell i):=by
 cases x with
 | tmp i=>
  refine ⟨i,by simp [Sv],?_⟩
  unfold St.leaf at h
  simp only [St.op] at h
  split at h
  ·rename_i l hl
   cases h
   rw [hl]
   simp [V5,A7z,Vl.ls,Ajh,Aus]
  ·cases h
 | const v=>
  unfold St.leaf at h
  simp only [St.op] at h
  split at h
  ·rename_i l hl
   cases h
   unfold A6c at hl
   split at hl
   ·split at hl<;>cases hl
   ·cases hl
   ·cases hl
  ·cases h
 | global _=>cases h
 | func _=>cases h
theorem Awy {x:Operand} (h:s.leaf x=t.leaf x) (hr:∀ id,s.leaf x=some (.row id)→s.res id=t.res id):Aqz s x=Aqz t x:=by
 unfold Aqz
 rw [← h]
 split
 ·rename_i id hl
  rw [hr id hl]
 ·rfl
theorem Boi {x:Operand} (h:s.leaf x=t.leaf x) (hr:∀ id,s.leaf x=some (.row id)→s.res id=t.res id):(s.leaf x).bind s.sl=(t.leaf x).bind t.sl:=by
 rw [← h]
 cases hl:s.leaf x with
 | none=>rfl
 | some l=>
  cases l with
  | row id=>simp only [Option.bind_some,St.sl]; rw [hr id hl]
  | _=>rfl
theorem Bcg {T:TypeId} {x y:Operand} (h:s.leaf x=t.leaf x) (hr:∀ id,s.leaf x=some (.row id)→s.res id=t.res id) (hy:s.conc y=t.conc y):Agg P s T x y=Agg P t T x y:=by
 unfold Agg
 rw [← h,← hy]
 split
 ·split
  ·rename_i id _ _ _ hl _
   rw [hr _ hl]
  ·rfl
 ·rfl
theorem Bi9 {T:TypeId} {x:Operand} (h:s.leaf x=t.leaf x) (hr:∀ id,s.leaf x=some (.row id)→s.res id=t.res id):A0d P s T x=A0d P t T x:=by
 unfold A0d
 rw [← h]
 split
 ·split
  ·rename_i id hl
   rw [hr _ hl]
  ·rfl
 ·rfl
end
theorem Awz {s t:St} {T:TypeId} {x y:Operand} (h:s.leaf x=t.leaf x) (hr:∀ id,s.leaf x=some (.row id)→s.res id=t.res id) (hy:s.conc y=t.conc y):Su P s T x y=Su P t T x y:=by
 unfold Su
 rw [Boi h hr,hy]
theorem Bmb {s t:St} {T:TypeId} {x:Operand} (h:s.leaf x=t.leaf x) (hr:∀ id,s.leaf x=some (.row id)→s.res id=t.res id) (hy:s.conc x=t.conc x):Bd3 P s T x=Bd3 P t T x:=by
 unfold Bd3
 rw [Boi h hr,hy]
theorem Bja {s t:St} {X:Option (List Bool×Lf)} {av:AV} {v':St} (e:Up (lfC t X)=some (av,v')):v'=t∧Up (lfC s X)=some (av,s):=by
 cases X with
 | none=>cases e
 | some p=>
  simp only [lfC,Up] at e ⊢
  split at e<;>cases e
  rename_i hq
  exact ⟨rfl,by rw [if_pos hq]⟩
theorem A6n {s t:St} {X:Option Value} {av:AV} {v':St} (e:Up (v0 t X)=some (av,v')):v'=t∧Up (v0 s X)=some (av,s):=by
 cases X with
 | none=>cases e
 | some p=>
  simp only [v0,Up] at e ⊢
  split at e<;>cases e
  rename_i hq
  exact ⟨rfl,by rw [if_pos hq]⟩
theorem Aw0 {s t:St}:∀ {l:List Operand},(∀ y∈l,s.conc y=t.conc y)→Ai4 s l=Ai4 t l
 | [],_=>rfl
 | y::r,h=>by
  simp only [Ai4]
  rw [h y (by simp),Aw0 (fun z hz=>h z (by simp [hz]))]
theorem Bch {s t:St} {T:TypeId} {x:Operand} (h:s.leaf x=t.leaf x) (hr:∀ id,s.leaf x=some (.row id)→s.res id=t.res id):Agj P s T x=Agj P t T x:=by
 unfold Agj
 rw [← h]
 split
 ·rename_i hl
  rw [hr _ hl]
 ·rfl
theorem Bmc {sigs:Tb} {nid:Nat} {o:Oper} {t v':St} {av:AV} (hl:V6 o=true) (hc:∀ i∈Gm o,t.cell i=s.cell i) (hr:Bcf o=false→∀ i∈Gm o,∀ id∈V5 (t.cell i),t.res id=s.res id)
  (e:Aao P sigs t nid o=some (av,v')):v'=t∧Aao P sigs s nid o=some (av,s):=by
 obtain ⟨dst,op,type,pos,after,guard⟩:=o
 cases op<;>simp only [V6] at hl<;>first | (cases hl; done) | skip
 case move x=>
  have hx:t.op x=s.op x:=Awx (fun i hi=>hc i (by simpa [Gm,Op.operands] using hi))
  simp only [Bool.not_eq_true'] at hl
  simp only [Aao,V3,Awt,Agk,Am1,hl,avS,Up,b9] at e ⊢
  cases e
  exact ⟨rfl,by rw [hx]; rfl⟩
 case assign x=>
  have hx:t.op x=s.op x:=Awx (fun i hi=>hc i (by simpa [Gm,Op.operands] using hi))
  simp only [Bool.not_eq_true'] at hl
  simp only [Aao,V3,Awt,Agk,Am1,hl,avS,Up,b9] at e ⊢
  cases e
  exact ⟨rfl,by rw [hx]; rfl⟩
 case indexAddr T x y=>
  have hs1:Sv [x] ⊆ Gm ⟨dst,.indexAddr T x y,type,pos,after,guard⟩:=fun i hi=>by
   cases x<;>simp [Sv,Gm,Op.operands] at hi ⊢
   exact .inl hi
  have hs2:Sv [y] ⊆ Gm ⟨dst,.indexAddr T x y,type,pos,after,guard⟩:=fun i hi=>by
   cases x<;>cases y<;>simp [Sv,Gm,Op.operands] at hi ⊢<;>first | exact hi | exact .inr hi
  have hx:=Bek (Awx (s:=t) (t:=s) (x:=x) (fun i hi=>hc i (hs1 hi)))
  have hy:=A0n (Awx (s:=t) (t:=s) (x:=y) (fun i hi=>hc i (hs2 hi)))
  have hrr:∀ id,t.leaf x=some (.row id)→t.res id=s.res id:=fun id hid=>by
   obtain ⟨i,h1,h2⟩:=Bi8 hid
   exact hr rfl i (hs1 h1) id h2
  simp only [Aao,V3,Awt,Agk] at e ⊢
  rw [Awy hx hrr,Bcg hx hrr hy,Awz hx hrr hy] at e
  split at e
  ·rename_i hq
   rw [if_pos hq]
   exact Bja e
  ·rename_i hq
   rw [if_neg hq]
   exact Bja e
 case call c=>
  obtain ⟨callee,args,argTypes⟩:=c
  have hcal:callee=.builtin .len:=by
   split at hl
   ·rename_i hq; exact hq
   ·cases hl
  subst hcal
  simp only [Aao,V3,Awt,Agk] at e ⊢
  split at e
  ·rename_i x T ha ht
   have ha':args=#[x]:=by apply Array.toList_inj.1; simpa using ha
   subst ha'
   have hs1:Sv [x] ⊆ Gm ⟨dst,.call ⟨.builtin .len,#[x],argTypes⟩,type,pos,after,guard⟩:=fun i hi=>by
    cases x<;>simp [Sv,Gm,Op.operands,Call.operands] at hi ⊢
    exact hi
   have hop:=Awx (s:=t) (t:=s) (x:=x) (fun i hi=>hc i (hs1 hi))
   have hx:=Bek hop
   have hrr:∀ id,t.leaf x=some (.row id)→t.res id=s.res id:=fun id hid=>by
    obtain ⟨i,h1,h2⟩:=Bi8 hid
    exact hr rfl i (hs1 h1) id h2
   have hcc:Un P t ⟨dst,.call ⟨.builtin .len,#[x],argTypes⟩,type,pos,after,guard⟩=Un P s ⟨dst,.call ⟨.builtin .len,#[x],argTypes⟩,type,pos,after,guard⟩:=by
    have hcx:=A0n hop
    unfold Un
    have e1:∀ y∈(Op.call ⟨.builtin .len,#[x],argTypes⟩).operands.toList,t.conc y=s.conc y:=fun y hy=>by
     simp [Op.operands,Call.operands] at hy
     rw [hy]; exact hcx
    rw [Aw0 e1]
    split
    ·have:execOp (fun x=>(t.conc x).getD undef) ⟨dst,.call ⟨.builtin .len,#[x],argTypes⟩,type,pos,after,guard⟩=execOp (fun x=>(s.conc x).getD undef) ⟨dst,.call ⟨.builtin .len,#[x],argTypes⟩,type,pos,after,guard⟩:=
      execOp_congr _ (fun cs b q=>by cases q) (fun y hy=>by show (t.conc y).getD undef=(s.conc y).getD undef; rw [e1 y (Array.mem_toList_iff.2 hy)])
     rw [this]
    ·rfl
   split at e
   ·rename_i hsl
    rw [if_pos hsl]
    rw [Awy hx hrr,Bi9 hx hrr,Bmb hx hrr (A0n hop)] at e
    split at e
    ·rename_i hq
     rw [if_pos hq]
     exact A6n e
    ·rename_i hq
     rw [if_neg hq]
     exact A6n e
   ·rename_i hsl
    rw [if_neg hsl]
    rw [hcc,Bch hx hrr] at e
    split at e
    ·rename_i hq
     rw [if_pos hq]
     exact A6n e
    ·rename_i hq
     rw [if_neg hq]
     exact A6n e
  ·cases e
theorem Bsc {sigs:Tb} (hs:A2 P sigs) (h:Cx n B Iq s g a w) {nid:Nat} {o:Oper} {av:AV} {v':St} (e:Asq P sigs s nid o=some (av,v')):
  V1 P n B Iq s g a w o av (if V6 o then s else s.lay v' (Aaq s o++Vx nid)):=by
 unfold Asq at e
 dsimp only at e
 split at e
 ·rename_i hfr
  split at e
  ·rename_i hcl
   obtain ⟨p,e1,e⟩:=By e
   split at e
   ·rename_i h1
    split at e<;>cases e
    rename_i h2
    cases hlt:V6 o with
    | true=>
     refine Am4 hs h (Bmc (t:=s.view (Gm o) (Aaq s o)) hlt (fun i hi=>?_) (fun hm i hi id hid=>?_) e1).2
     ·simp [St.view,Eb.2 hi]
     ·have:(s.view (Gm o) (Aaq s o)).cell i=s.cell i:=by simp [St.view,Eb.2 hi]
      rw [this] at hid
      simp [St.view,Eb.2 (A72 hm i hi id hid)]
    | false=>
     have c1:=Bej hcl
     have c2:=Bej h2
     have hmv:Bcf o=false:=by
      cases hq:Bcf o with
      | false=>rfl
      | true=>rw [Br9 hq] at hlt; cases hlt
     rw [hmv,Bool.false_or] at h1
     have hV:=Bsb h (sl:=Gm o) (ids:=Aaq s o) (A72 hmv) c1.1 (c1.2 hlt)
     intro K Q hK
     refine Am4 hs hV e1 K Q fun v gv' w' k1 k2 k3=>?_
     obtain ⟨g',q1,q2,q3⟩:=Bxf h (Auu hfr) k1 k2 (A0m.1 h1) c2.1 (c2.2 hlt)
     exact hK v g' w' q1 q2 (q3 v k3)
   ·cases e
  ·cases e
 ·cases e
end
end
section
def Bmd (s:St) (ops:Array Oper) (j:Nat):Option (Option Bool):=match ops[j]? with
 | some o=>match o.dst with
  | some d=>match s.cell d with
   | .vl (.lf (.c (.bool b)))=>some (some b)
   | .tp []=>some none
   | _=>none
  | none=>none
 | none=>none
def Sw (s:St) (ops:Array Oper) (o:Oper):Option Bool:=match o.guard with
 | none=>some true
 | some (j,want)=>match Bmd s ops j with
  | some (some b)=>some (bif b then want else !want)
  | some none=>some false
  | none=>none
def Bci (P:Program) (o:Oper):Bool:=match o.op with
 | .move x=>!A26 x
 | .assign x=>!A26 x
 | .pick _ _ _=>true
 | .build _ _=>true
 | .load _ _=>true
 | .nilCheck _=>true
 | .binOp _ _ _ _ _=>true
 | .unOp _ _ _=>true
 | .convert _ U _=>!Beg P U
 | .slice T _ _ _ _=>Br4 P T
 | .fieldAddr _ _ _=>true
 | .field _ _ _=>true
 | .indexAddr _ _ _=>true
 | .index _ _ _=>true
 | .extract _ _=>true
 | .call c=>match c.callee with
  | .builtin .len=>true
  | .builtin .min=>true
  | .builtin .max=>true
  | _=>false
 | _=>false
section
variable {P:Program} {n B:Nat} {Iq:List Nat} {s:St} {g:Gh} {a:Act} {w:World}
theorem Buy {nid:Nat} {o:Oper} {av:AV} {s':St} (hro:Bci P o=true) (e:Up (Agk P s nid o)=some (av,s')):s'=s:=by
 obtain ⟨dst,op,type,pos,after,guard⟩:=o
 have v0':∀ {x:Option Value},Up (v0 s x)=some (av,s')→s'=s:=fun e=>by obtain ⟨_,_,q⟩:=Ajg e; cases q; rfl
 have vC':∀ {x:Option (List Bool×Value)},Up (vC s x)=some (av,s')→s'=s:=fun e=>by obtain ⟨_,_,q⟩:=Aur e; cases q; rfl
 have vl':∀ {x:Option Vl},Up (vl0 s x)=some (av,s')→s'=s:=fun e=>by obtain ⟨_,_,q⟩:=A6j e; cases q; rfl
 have av':∀ {x:Option AV},Up (av0 s x)=some (av,s')→s'=s:=fun e=>by obtain ⟨_,_,q⟩:=Aq2 e; cases q; rfl
 have lf':∀ {x:Option (List Bool×Lf)},Up (lfC s x)=some (av,s')→s'=s:=fun e=>by obtain ⟨_,_,q⟩:=A6i e; cases q; rfl
 cases op<;>simp only [Agk,Bci] at e hro<;>first | (cases hro; done) | skip
 case move x=>
  have:=A6k e
  unfold Am1 at this
  split at this
  ·rename_i h; rw [h] at hro; cases hro
  ·cases this; rfl
 case assign x=>
  have:=A6k e
  unfold Am1 at this
  split at this
  ·rename_i h; rw [h] at hro; cases hro
  ·cases this; rfl
 case pick=>exact av' e
 case build=>exact vl' e
 case load=>
  split at e
  ·exact lf' e
  ·exact vl' e
 case nilCheck=>exact av' e
 case binOp op T x y U=>
  split at e
  ·split at e
   ·exact vC' e
   ·exact v0' e
  ·exact vC' e
  ·exact vC' e
  ·exact vC' e
  ·split at e<;>exact v0' e
  ·split at e<;>exact v0' e
  ·exact v0' e
 case unOp=>exact v0' e
 case convert T U x=>
  split at e
  ·exact v0' e
  ·split at e
   ·rename_i q
    rw [q] at hro
    cases hro
   ·exact v0' e
 case slice=>
  rw [if_pos hro] at e
  exact vC' e
 case fieldAddr=>
  obtain ⟨l,s1,e1,e2⟩:=Adh e
  cases e2
  obtain ⟨l',e3,e4⟩:=Option.map_eq_some_iff.1 e1
  cases e4
  rfl
 case field=>exact vl' e
 case indexAddr=>split at e<;>exact lf' e
 case index=>exact vC' e
 case extract=>exact av' e
 case call c=>
  obtain ⟨callee,args,argTypes⟩:=c
  simp only at e hro
  split at hro
  ·simp only at e
   split at e
   ·split at e
    ·split at e<;>exact v0' e
    ·split at e<;>exact v0' e
   ·cases e
  ·exact v0' e
  ·exact v0' e
  ·cases hro
theorem Buz {o:Oper} (hro:Bci P o=true):V3 o=none:=by
 unfold V3
 unfold Bci at hro
 split
 ·rename_i c hop
  rw [hop] at hro
  simp only at hro
  split
  ·rename_i f hf
   rw [hf] at hro
   cases hro
  ·rfl
 ·rfl
theorem Bxg {o:Oper} (hro:Bci P o=true):Awt s o=none:=by
 unfold Awt
 unfold Bci at hro
 split
 ·rename_i c hop
  rw [hop] at hro
  simp only at hro
  split
  ·rename_i t hf
   rw [hf] at hro
   cases hro
  ·rfl
 ·rfl
theorem Bsd (h:Cx n B Iq s g a w) {ops:Array Oper} {j:Nat} {r:Option Bool} (e:Bmd s ops j=some r):yielded ops a.tmps j=r:=by
 unfold Bmd at e
 unfold yielded
 split at e
 ·rename_i o ho
  split at e
  ·rename_i d hd
   have k:=h.cell d
   rw [ho]
   simp only [Option.bind_some,hd]
   split at e
   ·rename_i b hb
    cases e
    rw [hb] at k
    have k1:a.tmps.getD d undef=.bool b:=k.1
    rw [Array.getD_eq_getD_getElem?] at k1
    cases hq:a.tmps[d]? with
    | none=>rw [hq] at k1; simp [undef] at k1
    | some v=>rw [hq] at k1; simp at k1; rw [k1]
   ·rename_i hb
    cases e
    rw [hb] at k
    obtain ⟨us,hu,hsz,_⟩:=k
    have:us=#[]:=by apply Array.eq_empty_of_size_eq_zero; simpa using hsz
    subst this
    rw [Array.getD_eq_getD_getElem?] at hu
    cases hq:a.tmps[d]? with
    | none=>rfl
    | some v=>rw [hq] at hu; simp at hu; rw [hu]
   ·cases e
  ·cases e
 ·cases e
theorem Vm (h:Cx n B Iq s g a w) {ops:Array Oper} {o:Oper} {r:Bool} (e:Sw s ops o=some r):Region.wanted o (yielded ops a.tmps)=r:=by
 unfold Sw at e
 unfold Region.wanted
 split at e
 ·rename_i hg
  rw [hg]
  cases e
  rfl
 ·rename_i j want hg
  rw [hg]
  simp only
  split at e
  ·rename_i b hb
   rw [Bsd h hb]
   cases e
   cases b<;>cases want<;>rfl
  ·rename_i hb
   rw [Bsd h hb]
   cases e
   rfl
  ·cases e
end
end
section
structure Zq where
 o:Oper
 nid:Nat
 run:Bool
 ids:List Nat
 av:AV
 res:Nat→Ze
 wr:List Nat
def Zq.quiet (P:Program) (e:Zq):Bool:=!e.run || Bci P e.o
def Zq.app (P:Program) (n:Nat) (e:Zq) (s:St):St:=St.put n (if e.quiet P then s else ⟨s.cell,fun id=>if Ry e.wr id then e.res id else s.res id⟩) e.o.dst e.av
def Bjb (ops:Array Oper) (o:Oper):List Nat:=match o.guard with
 | some (j,_)=>match ops[j]? with
  | some oj=>match oj.dst with
   | some d=>[d]
   | none=>[]
  | none=>[]
 | none=>[]
def Zq.looks (ops:Array Oper) (e:Zq):List Nat:=(if e.run then Gm e.o else [])++Bjb ops e.o
def Bse:List Md→Bool
 | []=>true
 | .rd _::r=>Bse r
 | _=>false
def wrO (T:Tb) (v:St) (nid:Nat) (o:Oper) (m:List Nat):List Nat:=match o.op with
 | .store _ x _=>(match v.leaf x with
  | some (.ptr id _)=>if Ry m id then [id] else m
  | _=>m)
 | .call _=>(match V3 o with
  | some (f,_)=>(match T.sd f with
   | some sd=>if Bse sd.sg.ps&&(Oc sd.sg.rs&&(V0 sd.sg.ps&&Nat.ble (Rz sd.sg.rs) 4)) then Vx nid else m
   | none=>m)
  | none=>m)
 | _=>m
def Am6 (T:Tb) (s:St) (nid:Nat) (o:Oper) (av:AV) (v:St):Zq:=⟨o,nid,true,Aaq s o++Vx nid,av,v.res,wrO T (s.view (Gm o) (Aaq s o)) nid o (Aaq s o++Vx nid)⟩
def Aw1 (nid:Nat) (o:Oper):Zq:=⟨o,nid,false,[],.tp [],fun _=>.unborn,[]⟩
def Bp9 (P:Program) (sigs:Tb) (ops:Array Oper) (s:St) (e:Zq):Prop:=
 (Sw s ops e.o=some true∧∃ av v,Asq P sigs s e.nid e.o=some (av,v)∧e=Am6 sigs s e.nid e.o av v)∨(Sw s ops e.o=some false∧e=Aw1 e.nid e.o)
def Auv (P:Program) (sigs:Tb) (ops:Array Oper) (n:Nat):List Zq→St→Prop
 | [],_=>True
 | e::r,s=>Bp9 P sigs ops s e∧Auv P sigs ops n r (e.app P n s)
def mix (P:Program) (n:Nat) (D:Nat→Bool):Nat→List Zq→St→St
 | _,[],s=>s
 | i,e::r,s=>mix P n D (i + 1) r (if D i then e.app P n s else s)
def Bgt (o:Oper) (l:List Nat):Bool:=match o.dst with
 | some d=>Ry l d
 | none=>false
def Boj (o o':Oper):Bool:=match o.dst,o'.dst with
 | some d,some d'=>Nat.beq d d'
 | _,_=>false
def A73 (l m:List Nat):Bool:=match l with
 | []=>false
 | i::r=>Ry m i || A73 r m
def V7 (P:Program) (ops:Array Oper) (e f:Zq):Bool:=
 !Bgt e.o (f.looks ops)&&!Bgt f.o (e.looks ops)&&!Boj e.o f.o&&((e.quiet P || !A73 e.wr f.ids)&&(f.quiet P || !A73 f.wr e.ids)&&(e.quiet P || f.quiet P || !A73 e.wr f.wr))
def Adj (o:Oper):List Nat:=(o.after.toList.filter fun e=>Region.binds .any e).map (·.on)
def A3b (ancs:List Nat):List Nat→Nat
 | []=>0
 | p::r=>((1 <<< p) ||| (ancs.getD p 0)) ||| A3b ancs r
def A74 (P:Program) (ops:Array Oper) (A:Nat) (e:Zq):Nat→List Zq→Bool
 | _,[]=>true
 | k,d::r=>(A.testBit k || V7 P ops d e)&&A74 P ops A e (k + 1) r
def Bjc (i:Nat):List Nat→Bool
 | []=>true
 | p::r=>Nat.blt p i&&Bjc i r
def Bqa (P:Program) (ops:Array Oper):Nat→List Zq→List Nat→List Zq→Bool
 | _,_,_,[]=>true
 | i,done,ancs,e::r=>Bjc i (Adj e.o)&&(A74 P ops (A3b ancs (Adj e.o)) e 0 done&&Bqa P ops (i + 1) (done++[e]) (ancs++[A3b ancs (Adj e.o)]) r)
section
variable {P:Program} {n B:Nat} {Iq:List Nat} {sigs:Tb} {ops:Array Oper}
theorem A0o {l m:List Nat}:A73 l m=false↔∀ i∈l,i ∉ m:=by
 induction l with
 | nil=>simp [A73]
 | cons j r ih=>
  simp only [A73,Bool.or_eq_false_iff,ih,List.forall_mem_cons]
  constructor
  ·rintro ⟨h1,h2⟩
   exact ⟨fun q=>(by rw [Eb.2 q] at h1; cases h1),h2⟩
  ·rintro ⟨h1,h2⟩
   refine ⟨?_,h2⟩
   cases hq:Ry m j
   ·rfl
   ·exact absurd (Eb.1 hq) h1
theorem Bel {i:Nat} {l:List Nat}:Bjc i l=true↔∀ p∈l,p < i:=by
 induction l with
 | nil=>simp [Bjc]
 | cons j r ih=>simp [Bjc,ih,Nat.blt_eq]
def Bem (P:Program) (ops:Array Oper) (e' e:Zq):Prop:=(∀ d,e'.o.dst=some d→d ∉ e.looks ops)∧(e'.quiet P=false→∀ id∈e'.wr,id ∉ e.ids)
theorem Aw2 {o:Oper} {l:List Nat} (h:Bgt o l=false):∀ d,o.dst=some d→d ∉ l:=by
 intro d hd q
 unfold Bgt at h
 rw [hd] at h
 simp only at h
 rw [Eb.2 q] at h
 cases h
theorem Aw3 {e f:Zq} (h:V7 P ops e f=true):Bem P ops e f∧Bem P ops f e:=by
 simp only [V7,Bool.and_eq_true,Bool.not_eq_true',Bool.or_eq_true] at h
 obtain ⟨⟨⟨h1,h2⟩,h3⟩,⟨h4,h5⟩,_⟩:=h
 refine ⟨⟨Aw2 h1,fun q id hid=>?_⟩,⟨Aw2 h2,fun q id hid=>?_⟩⟩
 ·rcases h4 with h4 | h4
  ·rw [h4] at q; cases q
  ·exact A0o.1 h4 id hid
 ·rcases h5 with h5 | h5
  ·rw [h5] at q; cases q
  ·exact A0o.1 h5 id hid
theorem Bsf (s:St) (d:Option Tmp) (av:AV) (x:Nat):(s.put n d av).cell x=if (d=some x∧Nat.blt x n=true) then av else s.cell x:=by
 cases d with
 | none=>simp [St.put]
 | some d=>
  unfold St.put
  simp only
  by_cases q:x=d
  ·subst q
   by_cases hn:Nat.blt x n=true
   ·simp [hn,St.setCell]
   ·simp [hn]
  ·have:¬ (some d=some x∧Nat.blt x n=true):=fun h=>q (Option.some.inj h.1).symm
   rw [if_neg this]
   split
   ·simp [St.setCell,Bl _ _ q]
   ·rfl
theorem Aar (e:Zq) (s:St) (x:Nat):(e.app P n s).cell x=if (e.o.dst=some x∧Nat.blt x n=true) then e.av else s.cell x:=by
 unfold Zq.app
 rw [Bsf]
 split
 ·rfl
 ·split<;>rfl
theorem Ajk (e:Zq) (s:St) (id:Nat):(e.app P n s).res id=if e.quiet P=false∧id∈e.wr then e.res id else s.res id:=by
 unfold Zq.app
 rw [A6l]
 by_cases q:e.quiet P=true
 ·simp [q]
 ·have q:e.quiet P=false:=by simpa using q
  simp only [q,Bool.false_eq_true,if_false,true_and]
  by_cases hm:id∈e.wr
  ·simp [hm,Eb.2 hm]
  ·have:Ry e.wr id=false:=by
    cases hq:Ry e.wr id
    ·rfl
    ·exact absurd (Eb.1 hq) hm
   simp [hm,this]
theorem St.ext' {s t:St} (h1:∀ i,s.cell i=t.cell i) (h2:∀ id,s.res id=t.res id):s=t:=by
 obtain ⟨c,r⟩:=s
 obtain ⟨c',r'⟩:=t
 congr
 ·exact funext h1
 ·exact funext h2
theorem Bsg {e f:Zq} (h:V7 P ops e f=true) (s:St):f.app P n (e.app P n s)=e.app P n (f.app P n s):=by
 have hd:∀ d,e.o.dst=some d→f.o.dst≠some d:=by
  intro d h1 h2
  simp only [V7,Bool.and_eq_true,Bool.not_eq_true'] at h
  have:=h.1.2
  unfold Boj at this
  rw [h1,h2] at this
  simp at this
 have hr:∀ id,e.quiet P=false→id∈e.wr→¬ (f.quiet P=false∧id∈f.wr):=fun id q1 q2 q3=>by
  simp only [V7,Bool.and_eq_true,Bool.not_eq_true',Bool.or_eq_true] at h
  rcases h.2.2 with (h4 | h4) | h4
  ·rw [h4] at q1; cases q1
  ·rw [h4] at q3; cases q3.1
  ·exact A0o.1 h4 id q2 q3.2
 refine St.ext' (fun i=>?_) (fun id=>?_)
 ·rw [Aar,Aar,Aar,Aar]
  by_cases h1:e.o.dst=some i∧Nat.blt i n=true
  ·have h2:¬ (f.o.dst=some i∧Nat.blt i n=true):=fun q=>hd i h1.1 q.1
   rw [if_neg h2,if_pos h1,if_pos h1]
  ·rw [if_neg h1,if_neg h1]
 ·rw [Ajk,Ajk,Ajk,Ajk]
  by_cases h1:e.quiet P=false∧id∈e.wr
  ·rw [if_neg (hr id h1.1 h1.2),if_pos h1,if_pos h1]
  ·rw [if_neg h1,if_neg h1]
def Xw (s t:St) (L I:List Nat):Prop:=(∀ x∈L,s.cell x=t.cell x)∧∀ id∈I,s.res id=t.res id
theorem Xw.app {s t:St} {L I:List Nat} (h:Xw s t L I) (e:Zq):Xw (e.app P n s) (e.app P n t) L I:=by
 refine ⟨fun x hx=>?_,fun id hid=>?_⟩
 ·rw [Aar,Aar,h.1 x hx]
 ·rw [Ajk,Ajk,h.2 id hid]
theorem Bem.agree {e' e:Zq} (h:Bem P ops e' e) (s:St):Xw (e'.app P n s) s (e.looks ops) e.ids:=by
 refine ⟨fun x hx=>?_,fun id hid=>?_⟩
 ·rw [Aar,if_neg (fun q=>h.1 x q.1 hx)]
 ·rw [Ajk,if_neg (fun q=>h.2 q.1 id q.2 hid)]
theorem Xw.trans {s t u:St} {L I:List Nat} (h:Xw s t L I) (k:Xw t u L I):Xw s u L I:=⟨fun x hx=>(h.1 x hx).trans (k.1 x hx),fun x hx=>(h.2 x hx).trans (k.2 x hx)⟩
theorem Xw.symm {s t:St} {L I:List Nat} (h:Xw s t L I):Xw t s L I:=⟨fun x hx=>(h.1 x hx).symm,fun x hx=>(h.2 x hx).symm⟩
theorem Akk {s t:St}:∀ {sl:List Nat},(∀ x∈sl,s.cell x=t.cell x)→M7 s sl=M7 t sl
 | [],_=>rfl
 | i::r,h=>by
  simp only [M7]
  rw [h i (by simp),Akk (fun x hx=>h x (by simp [hx]))]
theorem Zg {s t:St}:∀ {l:List Nat},(∀ x∈l,s.res x=t.res x)→Qd s l=Qd t l
 | [],_=>rfl
 | i::r,h=>by
  simp only [Qd]
  rw [h i (by simp),Zg (fun x hx=>h x (by simp [hx]))]
theorem A3c {s t:St} {sl:List Nat} (h1:∀ x∈sl,s.cell x=t.cell x) (h2:∀ id∈Awv s sl,s.res id=t.res id):Awv t sl=Awv s sl:=by
 unfold Awv at h2 ⊢
 dsimp only at h2 ⊢
 rw [← Akk h1]
 have e1:Qd t (M7 s sl)=Qd s (M7 s sl):=(Zg (fun x hx=>h2 x (List.mem_append_left _ (List.mem_append_left _ hx)))).symm
 rw [e1]
 have e2:Qd t (M7 s sl++Qd s (M7 s sl))=Qd s (M7 s sl++Qd s (M7 s sl)):=(Zg (fun x hx=>h2 x (List.mem_append_left _ hx))).symm
 rw [e2]
theorem Ajl {s t:St}:∀ {l:List Nat},(∀ x∈l,s.res x=t.res x)→Aut s l=Aut t l
 | [],_=>rfl
 | i::r,h=>by
  simp only [Aut]
  rw [h i (by simp),Ajl (fun x hx=>h x (by simp [hx]))]
theorem A75 {s t:St} {o:Oper} (h1:∀ x∈Gm o,s.cell x=t.cell x) (h2:∀ id∈Aaq s o,s.res id=t.res id):Aaq t o=Aaq s o:=by
 unfold Aaq at h2 ⊢
 by_cases hm:Bcf o=true
 ·rw [if_pos hm,if_pos hm]
 rw [if_neg hm] at h2
 rw [if_neg hm,if_neg hm]
 split
 ·rename_i hq
  rw [if_pos hq] at h2
  exact A3c h1 h2
 ·rename_i hq
  rw [if_neg hq] at h2
  have h3:∀ id∈Awv s (Gm o),s.res id=t.res id:=fun id q=>h2 id (List.mem_append_left _ q)
  rw [A3c h1 h3,← Ajl h3]
theorem Bcj {s t:St} {o:Oper} {m:List Nat} (h:∀ id∈m,s.res id=t.res id):x5 o t m=x5 o s m:=by
 unfold x5
 rw [Zg h,Ajl h]
theorem Aw4 {s t:St}:∀ {k nid:Nat},(∀ id,nid≤id→id < nid + k→s.res id=t.res id)→Ya t nid k=Ya s nid k
 | 0,_,_=>rfl
 | k + 1,nid,h=>by
  simp only [Ya]
  rw [h nid (Nat.le_refl _) (by omega),Aw4 (fun id q1 q2=>h id (by omega) (by omega))]
theorem A76 {s t:St} {sl ids:List Nat} (h1:∀ x∈sl,s.cell x=t.cell x) (h2:∀ id∈ids,s.res id=t.res id):t.view sl ids=s.view sl ids:=by
 refine St.ext' (fun i=>?_) (fun id=>?_)
 ·show (if Ry sl i then t.cell i else .dead)=(if Ry sl i then s.cell i else .dead)
  split
  ·rename_i q; rw [h1 i (Eb.1 q)]
  ·rfl
 ·show (if Ry ids id then t.res id else .unborn)=(if Ry ids id then s.res id else .unborn)
  split
  ·rename_i q; rw [h2 id (Eb.1 q)]
  ·rfl
theorem Bjd {s t:St} {nid:Nat} {o:Oper} (h1:∀ x∈Gm o,s.cell x=t.cell x) (h2:∀ id∈Aaq s o++Vx nid,s.res id=t.res id):Asq P sigs t nid o=Asq P sigs s nid o:=by
 have h3:∀ id∈Aaq s o,s.res id=t.res id:=fun id q=>h2 id (List.mem_append_left _ q)
 unfold Asq
 dsimp only
 rw [A75 h1 h3,A76 h1 h3,← Bcj h3,Aw4 (s:=s) (t:=t) (fun id q1 q2=>h2 id (List.mem_append_right _ (by
  simp only [Vx,List.mem_cons,List.not_mem_nil,or_false,A4l] at q2 ⊢
  omega)))]
theorem Bme {s t:St} {o:Oper} {j:Nat} {want:Bool} (hg:o.guard=some (j,want)) (h:∀ x∈Bjb ops o,s.cell x=t.cell x):Bmd t ops j=Bmd s ops j:=by
 unfold Bjb at h
 rw [hg] at h
 simp only at h
 unfold Bmd
 split
 ·rename_i oj hoj
  rw [hoj] at h
  simp only at h
  split
  ·rename_i d hd
   rw [hd] at h
   simp only [List.mem_cons,List.not_mem_nil,or_false,forall_eq] at h
   rw [h]
  ·rfl
 ·rfl
theorem Ass {s t:St} {o:Oper} (h:∀ x∈Bjb ops o,s.cell x=t.cell x):Sw t ops o=Sw s ops o:=by
 unfold Sw
 split
 ·rfl
 ·rename_i j want hg
  rw [Bme hg h]
theorem Bp9.local {s t:St} {e:Zq} (h:Bp9 P sigs ops s e) (ha:Xw s t (e.looks ops) e.ids):Bp9 P sigs ops t e:=by
 have hg:∀ x∈Bjb ops e.o,s.cell x=t.cell x:=fun x hx=>ha.1 x (List.mem_append_right _ hx)
 rcases h with ⟨h1,av,v,h2,h3⟩ | ⟨h1,h2⟩
 ·left
  have hrun:e.run=true:=by rw [h3]; rfl
  have hids:e.ids=Aaq s e.o++Vx e.nid:=by rw [h3]; rfl
  have c1:∀ x∈Gm e.o,s.cell x=t.cell x:=fun x hx=>ha.1 x (List.mem_append_left _ (by rw [hrun]; exact hx))
  have c2:∀ id∈Aaq s e.o++Vx e.nid,s.res id=t.res id:=fun id hid=>ha.2 id (by rw [hids]; exact hid)
  refine ⟨by rw [Ass hg]; exact h1,av,v,by rw [Bjd c1 c2]; exact h2,?_⟩
  have:Am6 sigs t e.nid e.o av v=Am6 sigs s e.nid e.o av v:=by
   unfold Am6
   rw [A75 c1 (fun id hid=>c2 id (List.mem_append_left _ hid)),A76 c1 (fun id hid=>c2 id (List.mem_append_left _ hid))]
  rw [this]
  exact h3
 ·exact .inr ⟨by rw [Ass hg]; exact h1,h2⟩
theorem A77 {D:Nat→Bool} {e:Zq}:∀ {tr:List Zq} {k:Nat} {s:St},(∀ j f,tr[j]? = some f→D (k + j)=true→V7 P ops e f=true)→mix P n D k tr (e.app P n s)=e.app P n (mix P n D k tr s)
 | [],_,_,_=>rfl
 | f::r,k,s,h=>by
  simp only [mix]
  have h':∀ j f',r[j]? = some f'→D (k + 1 + j)=true→V7 P ops e f'=true:=fun j f' h1 h2=>h (j + 1) f' (by simpa using h1) (by rw [← h2]; congr 1; omega)
  split
  ·rename_i hD
   rw [Bsg (h 0 f rfl hD),A77 h']
  ·exact A77 h'
theorem A0p {D D':Nat→Bool}:∀ {tr:List Zq} {k:Nat} {s:St},(∀ j,j < tr.length→D (k + j)=D' (k + j))→mix P n D k tr s=mix P n D' k tr s
 | [],_,_,_=>rfl
 | f::r,k,s,h=>by
  simp only [mix]
  have h0:D k=D' k:=h 0 (by simp)
  rw [h0]
  exact A0p (fun j hj=>by have:=h (j + 1) (by simpa using hj); rw [show k + 1 + j=k + (j + 1) by omega]; exact this)
theorem Bok {D D':Nat→Bool} {e:Zq}:∀ {tr:List Zq} {k i:Nat} {s:St},tr[i]? = some e→D (k + i)=false→D' (k + i)=true→(∀ j,j≠i→D' (k + j)=D (k + j))→
  (∀ j f,i < j→tr[j]? = some f→D (k + j)=true→V7 P ops e f=true)→mix P n D' k tr s=e.app P n (mix P n D k tr s)
 | [],_,_,_,h,_,_,_,_=>by simp at h
 | f::r,k,0,s,h,h1,h2,h3,h4=>by
  simp at h
  subst h
  simp only [mix]
  have h1':D k=false:=h1
  have h2':D' k=true:=h2
  rw [h1',h2']
  simp only [if_true,Bool.false_eq_true,if_false]
  rw [A0p (D:=D') (D':=D) (fun j hj=>by have:=h3 (j + 1) (by omega); rw [show k + 1 + j=k + (j + 1) by omega]; exact this)]
  exact A77 (fun j f' q1 q2=>h4 (j + 1) f' (by omega) (by simpa using q1) (by rw [← q2]; congr 1; omega))
 | f::r,k,i + 1,s,h,h1,h2,h3,h4=>by
  simp only [mix]
  have h0:D' k=D k:=h3 0 (by omega)
  rw [h0]
  refine Bok (i:=i) (by simpa using h) (by rw [← h1]; congr 1; omega) (by rw [← h2]; congr 1; omega) (fun j hj=>?_) (fun j f' q1 q2 q3=>?_)
  ·have:=h3 (j + 1) (by omega)
   rw [show k + 1 + j=k + (j + 1) by omega]
   exact this
  ·exact h4 (j + 1) f' (by omega) (by simpa using q2) (by rw [← q3]; congr 1; omega)
theorem A0q {D:Nat→Bool} {e:Zq}:∀ {tr:List Zq} {k i:Nat} {s t:St},Xw s t (e.looks ops) e.ids→
  (∀ j f,tr[j]? = some f→j < i→D (k + j)=false→Bem P ops f e)→(∀ j f,tr[j]? = some f→i≤j→D (k + j)=true→Bem P ops f e)→
  Xw (mix P n D k tr s) (mix P n (fun _=>true) k (tr.take i) t) (e.looks ops) e.ids
 | [],k,i,s,t,h,_,_=>by simpa [mix] using h
 | f::r,k,0,s,t,h,h1,h2=>by
  simp only [mix,List.take_zero]
  have ih:∀ s',Xw s' t (e.looks ops) e.ids→Xw (mix P n D (k + 1) r s') t (e.looks ops) e.ids:=fun s' q=>by
   have:=A0q (D:=D) (tr:=r) (k:=k + 1) (i:=0) q (fun j f' q1 q2=>by omega) (fun j f' q1 _ q3=>h2 (j + 1) f' (by simpa using q1) (by omega) (by rw [← q3]; congr 1; omega))
   simpa [mix] using this
  split
  ·rename_i hD
   exact ih _ (((h2 0 f rfl (by omega) hD).agree s).trans h)
  ·exact ih _ h
 | f::r,k,i + 1,s,t,h,h1,h2=>by
  simp only [mix,List.take_succ_cons,if_true]
  have ih:∀ s' t',Xw s' t' (e.looks ops) e.ids→Xw (mix P n D (k + 1) r s') (mix P n (fun _=>true) (k + 1) (r.take i) t') (e.looks ops) e.ids:=fun s' t' q=>
   A0q (D:=D) q (fun j f' q1 q2 q3=>h1 (j + 1) f' (by simpa using q1) (by omega) (by rw [← q3]; congr 1; omega)) (fun j f' q1 q2 q3=>h2 (j + 1) f' (by simpa using q1) (by omega) (by rw [← q3]; congr 1; omega))
  split
  ·exact ih _ _ (h.app f)
  ·rename_i hD
   have hD:D k=false:=by simpa using hD
   exact ih _ _ (h.trans ((h1 0 f rfl (by omega) hD).agree t).symm)
theorem Auv.get:∀ {tr:List Zq} {k i:Nat} {s:St} {e:Zq},Auv P sigs ops n tr s→tr[i]? = some e→Bp9 P sigs ops (mix P n (fun _=>true) k (tr.take i) s) e
 | [],_,_,_,_,_,h=>by simp at h
 | f::r,k,0,s,e,h,hi=>by
  simp at hi
  subst hi
  simpa [mix] using h.1
 | f::r,k,i + 1,s,e,h,hi=>by
  simp only [List.take_succ_cons,mix,if_true]
  exact Auv.get h.2 (by simpa using hi)
def Bsh (tr:List Zq) (D:Nat→Prop):Prop:=∀ k e,tr[k]? = some e→D k→∀ p∈Adj e.o,D p
def Bef (tr:List Zq) (i:Nat) (e:Zq):Prop:=∀ D,Bsh tr D→(∀ p∈Adj e.o,D p)→D i
theorem Ben {ancs:List Nat} {i:Nat}:∀ {ps:List Nat},(A3b ancs ps).testBit i=true→∃ p∈ps,p=i∨(ancs.getD p 0).testBit i=true
 | [],h=>by simp [A3b] at h
 | p::r,h=>by
  simp only [A3b,Nat.testBit_or,Bool.or_eq_true] at h
  rcases h with (h | h) | h
  ·refine ⟨p,by simp,.inl ?_⟩
   rw [Nat.one_shiftLeft,Nat.testBit_two_pow] at h
   simpa using h
  ·exact ⟨p,by simp,.inr h⟩
  ·obtain ⟨q,h1,h2⟩:=Ben h
   exact ⟨q,by simp [h1],h2⟩
theorem A78 {A:Nat} {e:Zq}:∀ {l:List Zq} {k:Nat},A74 P ops A e k l=true→∀ j f,l[j]? = some f→A.testBit (k + j)=true∨V7 P ops f e=true
 | [],_,_,j,f,hj=>by simp at hj
 | d::r,k,h,0,f,hj=>by
  simp at hj
  subst hj
  simp only [A74,Bool.and_eq_true,Bool.or_eq_true] at h
  exact h.1
 | d::r,k,h,j + 1,f,hj=>by
  simp only [A74,Bool.and_eq_true,Bool.or_eq_true] at h
  have:=A78 h.2 j f (by simpa using hj)
  rw [show k + (j + 1)=k + 1 + j by omega]
  exact this
theorem Bje {tr:List Zq}:∀ {rest done:List Zq} {ancs:List Nat},tr=done++rest→ancs.length=done.length→Bqa P ops done.length done ancs rest=true→
  (∀ k e x,done[k]? = some e→(ancs.getD k 0).testBit x=true→Bef tr x e)→
  (∀ i j e f,tr[i]? = some e→tr[j]? = some f→i < j→j < done.length→Bef tr i f∨V7 P ops e f=true)→
  (∀ j f,tr[j]? = some f→j < done.length→∀ p∈Adj f.o,p < j)→
  (∀ i j e f,tr[i]? = some e→tr[j]? = some f→i < j→Bef tr i f∨V7 P ops e f=true)∧(∀ j f,tr[j]? = some f→∀ p∈Adj f.o,p < j)
 | [],done,ancs,h,_,_,_,h3,h4=>by
  subst h
  rw [List.append_nil]
  refine ⟨fun i j e f h1 h2 h5=>?_,fun j f h1=>?_⟩
  ·have:=h3 i j e f (by rw [List.append_nil]; exact h1) (by rw [List.append_nil]; exact h2) h5 (List.getElem?_eq_some_iff.1 h2).1
   rwa [List.append_nil] at this
  ·exact h4 j f (by rw [List.append_nil]; exact h1) (List.getElem?_eq_some_iff.1 h1).1
 | e::rest,done,ancs,h,hl,hok,h2,h3,h4=>by
  simp only [Bqa,Bool.and_eq_true] at hok
  obtain ⟨k1,k2,k3⟩:=hok
  have hget:tr[done.length]? = some e:=by rw [h]; simp
  have hbef:∀ x,(A3b ancs (Adj e.o)).testBit x=true→Bef tr x e:=by
   intro x hx D hD hp
   obtain ⟨p,q1,q2⟩:=Ben hx
   rcases q2 with rfl | q2
   ·exact hp _ q1
   ·have hpl:p < done.length:=Bel.1 k1 p q1
    have hpe:done[p]? = some done[p]:=List.getElem?_eq_getElem hpl
    have hpt:tr[p]? = some done[p]:=by rw [h,List.getElem?_append_left hpl]; exact hpe
    exact h2 p _ x hpe q2 D hD (hD p _ hpt (hp p q1))
  have hlen:(done++[e]).length=done.length + 1:=by simp
  refine Bje (rest:=rest) (done:=done++[e]) (ancs:=ancs++[A3b ancs (Adj e.o)]) (by rw [h]; simp) (by simp [hl]) (by rw [hlen]; exact k3) ?_ ?_ ?_
  ·intro k f x hk hx
   by_cases q:k < done.length
   ·rw [List.getElem?_append_left q] at hk
    refine h2 k f x hk ?_
    rw [List.getD_eq_getElem?_getD,List.getElem?_append_left (by omega),← List.getD_eq_getElem?_getD] at hx
    exact hx
   ·have hkl:=(List.getElem?_eq_some_iff.1 hk).1
    have hke:k=done.length:=by simp at hkl; omega
    subst hke
    simp at hk
    subst hk
    rw [List.getD_eq_getElem?_getD,← hl] at hx
    simp at hx
    exact hbef x hx
  ·intro i j f f' q1 q2 q3 q4
   by_cases q:j < done.length
   ·exact h3 i j f f' q1 q2 q3 q
   ·have:j=done.length:=by simp at q4; omega
    subst this
    rw [hget] at q2
    cases q2
    have hi:done[i]? = some f:=by rw [h,List.getElem?_append_left q3] at q1; exact q1
    rcases A78 k2 i f hi with q5 | q5
    ·exact .inl (hbef i (by simpa using q5))
    ·exact .inr q5
  ·intro j f q1 q2
   by_cases q:j < done.length
   ·exact h4 j f q1 q
   ·have:j=done.length:=by simp at q2; omega
    subst this
    rw [hget] at q1
    cases q1
    exact Bel.1 k1
end
end
section
def unl (listed:Array Bool):Nat→Nat
 | 0=>0
 | k + 1=>unl listed k + (if listed.getD k false then 0 else 1)
theorem Ku (listed:Array Bool) (i j:Nat) (h:i < listed.size):(listed.setIfInBounds i true).getD j false=if j=i then true else listed.getD j false:=by
 by_cases q:j=i
 ·subst q
  simp [h]
 ·rw [getD_set_ne false (fun e=>q e.symm)]
  simp [q]
theorem Bol (listed:Array Bool) (i:Nat) (h:i < listed.size):∀ k,k≤i→unl (listed.setIfInBounds i true) k=unl listed k
 | 0,_=>rfl
 | k + 1,hk=>by
  simp only [unl]
  have hq:(listed.setIfInBounds i true).getD k false=listed.getD k false:=by rw [Ku listed i k h,if_neg (by omega)]
  rw [Bol listed i h k (by omega),hq]
theorem Bom (listed:Array Bool) (i:Nat) (h:i < listed.size) (hf:listed.getD i false=false):∀ k,i < k→unl (listed.setIfInBounds i true) k + 1=unl listed k
 | 0,hk=>by omega
 | k + 1,hk=>by
  simp only [unl]
  by_cases q:k=i
  ·subst q
   have hq:(listed.setIfInBounds k true).getD k false=true:=by rw [Ku listed k k h,if_pos rfl]
   rw [Bol listed k h k (Nat.le_refl _),hq,hf]
   simp
  ·have hq:(listed.setIfInBounds i true).getD k false=listed.getD k false:=by rw [Ku listed i k h,if_neg q]
   rw [hq]
   have:=Bom listed i h hf k (by omega)
   omega
theorem Bjf (listed:Array Bool):∀ k,unl listed k=0→∀ j,j < k→listed.getD j false=true
 | 0,_,j,hj=>by omega
 | k + 1,h,j,hj=>by
  simp only [unl] at h
  by_cases q:j=k
  ·subst q
   by_cases hq:listed.getD j false=true
   ·exact hq
   ·rw [if_neg hq] at h; omega
  ·exact Bjf listed k (by omega) j (by omega)
section
variable {P:Program} {n B:Nat} {Iq:List Nat} {sigs:Tb} {ops:Array Oper}
theorem A79 {listed:Array Bool} {j:Nat} (hj:j∈Region.ready .any ops listed):∃ o,ops[j]? = some o∧listed.getD j true=false∧∀ p∈Adj o,listed.getD p false=true:=by
 obtain ⟨h0,o,ho,h⟩:=mem_ready.1 hj
 refine ⟨o,ho,h0,fun p hp=>?_⟩
 simp only [Adj,List.mem_map,List.mem_filter] at hp
 obtain ⟨e,⟨he,hb⟩,rfl⟩:=hp
 exact h e (Array.mem_toList_iff.1 he) hb
theorem Bmf {tr:List Zq} (htr:tr.map (·.o)=ops.toList) {listed:Array Bool} (hsz:listed.size=ops.size) (hp:∀ j f,tr[j]? = some f→∀ p∈Adj f.o,p < j) (hr:Region.ready .any ops listed=[]):
  ∀ j,j < ops.size→listed.getD j false=true:=by
 intro j
 induction j using Nat.strongRecOn with
 | _ j ih=>
  intro hj
  cases hq:listed.getD j false with
  | true=>rfl
  | false=>
   exfalso
   have hlen:tr.length=ops.size:=by rw [← Array.length_toList,← htr]; simp
   have hte:tr[j]? = some (tr[j]'(by omega)):=List.getElem?_eq_getElem (by omega)
   have ho:ops[j]? = some (tr[j]'(by omega)).o:=by
    rw [← Array.getElem?_toList,← htr,List.getElem?_map,hte]
    rfl
   have:j∈Region.ready .any ops listed:=by
    rw [mem_ready]
    refine ⟨?_,_,ho,fun e he hb=>?_⟩
    ·rw [← hq]
     simp [Array.getD,show j < listed.size by omega]
    ·have hmem:e.on∈Adj (tr[j]'(by omega)).o:=by
      simp only [Adj,List.mem_map,List.mem_filter]
      exact ⟨e,⟨Array.mem_toList_iff.2 he,hb⟩,rfl⟩
     have:=hp j _ hte _ hmem
     exact ih e.on this (by omega)
   rw [hr] at this
   cases this
theorem Bsi {o:Oper} (h:V6 o=true):Bci P o=true:=by
 obtain ⟨dst,op,type,pos,after,guard⟩:=o
 cases op<;>simp only [V6] at h<;>simp only [Bci]<;>first | exact h | (cases h; done) | skip
 case call c=>
  split at h
  ·rename_i hq
   rw [hq]
  ·cases h
theorem Bjg:∀ {ms:List Md} {y:BxD ms} {ow:List (Option Nat)} {res:Nat→Ze},Bse ms=true→Ti ms y ow res=res
 | [],_,_,_,_=>rfl
 | .rd _::ms,y,ow,res,h=>Bjg (ms:=ms) h
 | .own _ _::_,_,_,_,h=>by cases h
 | .bx _ _::_,_,_,_,h=>by cases h
 | .mu _ _::_,_,_,_,h=>by cases h
theorem Bu0 {v v':St} {nid:Nat} {o:Oper} {av:AV} {m:List Nat} (e:Aao P sigs v nid o=some (av,v')) {id:Nat} (hm:id∈m) (hw:id ∉ wrO sigs v nid o m):v'.res id=v.res id:=by
 obtain ⟨dst,op,type,pos,after,guard⟩:=o
 cases op<;>try exact absurd hm hw
 case store T x y=>
  have e2:Up (if Awp v x then stC (Awq P v T x y) else stC (Am0 P v T x y))=some (av,v'):=e
  unfold wrO at hw
  simp only at hw
  split at hw
  ·rename_i j off hl
   have hlp:Awp v x=false:=by unfold Awp; rw [hl]
   rw [hlp] at e2
   simp only [Bool.false_eq_true,if_false] at e2
   obtain ⟨s',e3,e4⟩:=Aws e2
   cases e4
   obtain ⟨cs,e5,_⟩:=Dz e3
   unfold Am0 at e5
   rw [hl] at e5
   simp only [Option.bind_some] at e5
   obtain ⟨u,e6,e7⟩:=By e5
   split at e7
   ·cases e7
   ·split at e7
    ·split at e7
     ·split at e7
      ·cases e7
       have hne:id≠j:=by
        intro q
        subst q
        rw [if_pos (Eb.2 hm)] at hw
        exact hw (List.mem_singleton.2 rfl)
       show upd v.res j _ id=v.res id
       exact Bl _ _ hne
      ·cases e7
     ·cases e7
    ·cases e7
  ·exact absurd hm hw
 case call c=>
  unfold wrO at hw
  simp only at hw
  split at hw
  ·rename_i f xs hc
   split at hw
   ·rename_i sd hsd
    split at hw
    ·rename_i hq
     simp only [Bool.and_eq_true] at hq
     obtain ⟨q1,q2,q3,q4⟩:=hq
     unfold Aao at e
     rw [hc] at e
     simp only at e
     split at e
     ·rename_i vs hvs
      rw [hsd] at e
      simp only at e
      unfold Aun at e
      rw [q2,q3] at e
      simp only [Bool.and_self,if_true] at e
      obtain ⟨ls,e1,e⟩:=By e
      obtain ⟨q,e2,e⟩:=By e
      split at e
      ·split at e
       ·obtain ⟨r,e3,e⟩:=By e
        obtain ⟨vs',e4,e⟩:=By e
        cases e
        show Tq sd.sg.rs r.1 nid (Ti sd.sg.ps r.2 q.2 v.res) id=v.res id
        rw [Bjg q1]
        refine Nm _ _ _ _ _ ?_
        have hq4:=Nat.le_of_ble_eq_true q4
        simp only [Vx,List.mem_cons,List.not_mem_nil,or_false,not_or] at hw
        omega
       ·cases e
      ·cases e
     ·cases e
    ·exact absurd hm hw
   ·exact absurd hm hw
  ·exact absurd hm hw
theorem Bye {v:St} {nid:Nat} {o:Oper} {m:List Nat} (hs:∀ i∈Vx nid,i∈m) {id:Nat} (h:id∈wrO sigs v nid o m):id∈m:=by
 unfold wrO at h
 split at h
 ·split at h
  ·split at h
   ·rename_i q
    rw [List.mem_singleton.1 h]
    exact Eb.1 q
   ·exact h
  ·exact h
 ·split at h
  ·split at h
   ·split at h
    ·exact hs id h
    ·exact h
   ·exact h
  ·exact h
 ·exact h
theorem Bu1 (hs:A2 P sigs) {s:St} {g:Gh} {a:Act} {w:World} (h:Cx n B Iq s g a w) {e:Zq} (hf:Bp9 P sigs ops s e) {i:Nat} (ho:ops[i]? = some e.o)
  {K:Act→World→Prop} {Q:Exit→Act→World→Prop} (hK:∀ a' g' w',Go B Iq s g w (e.app P n s) g' w'→Cx n B Iq (e.app P n s) g' a' w'→K a' w'):wpOp P ops Q i K a w:=by
 unfold wpOp
 rw [ho]
 simp only
 rcases hf with ⟨h1,av,v,h2,h3⟩ | ⟨h1,h2⟩
 ·rw [if_pos (Vm h h1)]
  left
  refine Bsc hs h h2 K Q fun u g' w' k1 k2 k3=>?_
  have happ:e.app P n s=St.put n (if V6 e.o then s else s.lay v (Aaq s e.o++Vx e.nid)) e.o.dst av:=by
   have q1:e.run=true:=by rw [h3]; rfl
   have q2:e.wr=wrO sigs (s.view (Gm e.o) (Aaq s e.o)) e.nid e.o (Aaq s e.o++Vx e.nid):=by rw [h3]; rfl
   have q3:e.av=av:=by rw [h3]; rfl
   have q4:e.res=v.res:=by rw [h3]; rfl
   unfold Zq.app
   rw [q3]
   congr 1
   rw [q2,q4]
   by_cases hq:e.quiet P=true
   ·rw [if_pos hq]
    have hro:Bci P e.o=true:=by
     unfold Zq.quiet at hq
     rw [q1] at hq
     simpa using hq
    by_cases hlt:V6 e.o=true
    ·rw [if_pos hlt]
    ·rw [if_neg hlt]
     unfold Asq at h2
     dsimp only at h2
     split at h2
     ·rename_i hfr
      split at h2
      ·obtain ⟨p,e1,e2⟩:=By h2
       split at e2
       ·split at e2<;>cases e2
        unfold Aao at e1
        rw [Buz hro] at e1
        simp only [Bxg hro] at e1
        have:=Buy hro e1
        rw [this]
        refine St.ext' (fun i=>rfl) (fun id=>?_)
        show s.res id=if Ry _ id then (if Ry _ id then s.res id else .unborn) else s.res id
        split
        ·rename_i hm
         split
         ·rfl
         ·rename_i hn
          rcases List.mem_append.1 (Eb.1 hm) with q | q
          ·exact absurd (Eb.2 q) hn
          ·exact Auu hfr id q
        ·rfl
       ·cases e2
      ·cases h2
     ·cases h2
   ·have hlt:¬ V6 e.o=true:=fun q=>hq (by
     unfold Zq.quiet
     rw [q1,Bsi q]
     rfl)
    rw [if_neg hq,if_neg hlt]
    unfold Asq at h2
    dsimp only at h2
    split at h2
    ·rename_i hfr
     split at h2
     ·obtain ⟨p,e1,e2⟩:=By h2
      split at e2
      ·split at e2<;>cases e2
       refine St.ext' (fun i=>rfl) (fun id=>?_)
       show (if Ry _ id then v.res id else s.res id)=if Ry _ id then v.res id else s.res id
       by_cases hm:id∈Aaq s e.o++Vx e.nid
       ·rw [if_pos (Eb.2 hm)]
        split
        ·rfl
        ·rename_i hw
         rw [Bu0 e1 hm (fun q=>hw (Eb.2 q))]
         show s.res id=if Ry _ id then s.res id else .unborn
         split
         ·rfl
         ·rename_i hn
          rcases List.mem_append.1 hm with q | q
          ·exact absurd (Eb.2 q) hn
          ·exact Auu hfr id q
       ·rw [if_neg (fun q=>hm (Eb.1 q)),if_neg (fun q=>hm (Bye (fun i hi=>List.mem_append_right _ hi) (Eb.1 q)))]
      ·cases e2
     ·cases h2
    ·cases h2
  obtain ⟨r1,r2⟩:=Ug k2 e.o.dst k3
  exact hK _ g' w' (by rw [happ]; exact k1.trans r2) (by rw [happ]; exact r1)
 ·rw [if_neg (by rw [Vm h h1]; simp)]
  have happ:e.app P n s=St.put n s e.o.dst (.tp []):=by
   have q1:e.run=false:=by rw [h2]; rfl
   have q2:e.av=.tp []:=by rw [h2]; rfl
   unfold Zq.app
   rw [q2]
   have:e.quiet P=true:=by unfold Zq.quiet; rw [q1]; rfl
   rw [if_pos this]
  obtain ⟨r1,r2⟩:=Ug (av:=.tp []) (v:=undef) h e.o.dst ⟨#[],rfl,rfl,fun j v hv=>by simp at hv⟩
  exact hK _ g w (by rw [happ]; exact r2) (by rw [happ]; exact r1)
theorem Bxi (hs:A2 P sigs) {tr:List Zq} {s0:St} {g0:Gh} {w0:World} (htr:tr.map (·.o)=ops.toList) (hfit:Auv P sigs ops n tr s0) (hok:Bqa P ops 0 [] [] tr=true) {Q:Exit→Act→World→Prop}
  (hQ:∀ a g w,Go B Iq s0 g0 w0 (mix P n (fun _=>true) 0 tr s0) g w→Cx n B Iq (mix P n (fun _=>true) 0 tr s0) g a w→Q .normal a w):
  ∀ (fuel:Nat) (listed:Array Bool) (a:Act) (g:Gh) (w:World),listed.size=ops.size→unl listed ops.size≤fuel→Bsh tr (fun i=>listed.getD i false=true)→
   Go B Iq s0 g0 w0 (mix P n (fun i=>listed.getD i false) 0 tr s0) g w→Cx n B Iq (mix P n (fun i=>listed.getD i false) 0 tr s0) g a w→wpAny P .any ops Q fuel listed a w:=by
 have hlen:tr.length=ops.size:=by rw [← Array.length_toList,← htr]; simp
 obtain ⟨hconf,hlt⟩:=Bje (tr:=tr) (rest:=tr) (done:=[]) (ancs:=[]) rfl rfl hok (by simp) (by simp) (by simp)
 have hdone:∀ (listed:Array Bool) a g w,(∀ j,j < ops.size→listed.getD j false=true)→Go B Iq s0 g0 w0 (mix P n (fun i=>listed.getD i false) 0 tr s0) g w→
   Cx n B Iq (mix P n (fun i=>listed.getD i false) 0 tr s0) g a w→Q .normal a w:=by
  intro listed a g w hall h1 h2
  have:mix P n (fun i=>listed.getD i false) 0 tr s0=mix P n (fun _=>true) 0 tr s0:=A0p (fun j hj=>by
   rw [Nat.zero_add]
   exact hall j (by omega))
  rw [this] at h1 h2
  exact hQ a g w h1 h2
 intro fuel
 induction fuel with
 | zero=>
  intro listed a g w hsz hu hcl h1 h2
  have hall:=Bjf listed ops.size (by omega)
  refine ⟨?_,hdone listed a g w hall h1 h2⟩
  cases hr:Region.ready .any ops listed with
  | nil=>rfl
  | cons j r=>
   exfalso
   have hj:j∈Region.ready .any ops listed:=by rw [hr]; simp
   obtain ⟨o,ho,h0,_⟩:=A79 hj
   have hlt:=(Array.getElem?_eq_some_iff.1 ho).1
   have:=hall j hlt
   simp [Array.getD,show j < listed.size by omega] at this h0
   rw [this] at h0
   cases h0
 | succ fuel ih=>
  intro listed a g w hsz hu hcl h1 h2
  refine ⟨fun hr=>hdone listed a g w (Bmf htr hsz hlt hr) h1 h2,fun i hi=>?_⟩
  obtain ⟨o,ho,h0,hp⟩:=A79 hi
  have hil:i < ops.size:=(Array.getElem?_eq_some_iff.1 ho).1
  have hf0:listed.getD i false=false:=by
   rw [← h0]
   simp [Array.getD,show i < listed.size by omega]
  have hte:tr[i]? = some (tr[i]'(by omega)):=List.getElem?_eq_getElem (by omega)
  generalize hen:tr[i]'(by omega)=e at hte
  have heo:e.o=o:=by
   have:ops[i]? = some e.o:=by
    rw [← Array.getElem?_toList,← htr,List.getElem?_map,hte]
    rfl
   rw [ho] at this
   exact (Option.some.inj this).symm
  have hnotbef:∀ j f,tr[j]? = some f→i < j→listed.getD j false=true→V7 P ops e f=true:=by
   intro j f q1 q2 q3
   rcases hconf i j e f hte q1 q2 with q | q
   ·exfalso
    have:=q _ hcl (hcl j f q1 q3)
    rw [hf0] at this
    cases this
   ·exact q
  have hahead:∀ j f,tr[j]? = some f→j < i→listed.getD j false=false→V7 P ops f e=true:=by
   intro j f q1 q2 q3
   rcases hconf j i f e q1 hte q2 with q | q
   ·exfalso
    have:=q _ hcl (fun p hpp=>hp p (by rw [← heo]; exact hpp))
    rw [q3] at this
    cases this
   ·exact q
  have hagree:=A0q (P:=P) (n:=n) (D:=fun i=>listed.getD i false) (e:=e) (tr:=tr) (k:=0) (i:=i) (s:=s0) (t:=s0) ⟨fun _ _=>rfl,fun _ _=>rfl⟩
   (fun j f q1 q2 q3=>by rw [Nat.zero_add] at q3; exact (Aw3 (hahead j f q1 q2 q3)).1)
   (fun j f q1 q2 q3=>by
    rw [Nat.zero_add] at q3
    by_cases q:j=i
    ·subst q
     rw [hf0] at q3
     cases q3
    ·exact (Aw3 (hnotbef j f q1 (by omega) q3)).2)
  have hfits:=(Auv.get (k:=0) hfit hte).local hagree.symm
  refine Bu1 hs h2 hfits (by rw [heo]; exact ho) fun a' g' w' k1 k2=>?_
  have hset:mix P n (fun j=>(listed.setIfInBounds i true).getD j false) 0 tr s0=e.app P n (mix P n (fun i=>listed.getD i false) 0 tr s0):=by
   refine Bok (ops:=ops) (i:=i) hte (by rw [Nat.zero_add]; exact hf0) (by rw [Nat.zero_add,Ku listed i i (by omega),if_pos rfl]) (fun j hj=>by rw [Nat.zero_add,Ku listed i j (by omega),if_neg hj]) (fun j f q1 q2 q3=>?_)
   rw [Nat.zero_add] at q3
   exact hnotbef j f q2 q1 q3
  refine ih (listed.setIfInBounds i true) a' g' w' (by simp [hsz]) ?_ ?_ (by rw [hset]; exact h1.trans k1) (by rw [hset]; exact k2)
  ·have:=Bom listed i (by omega) hf0 ops.size hil
   omega
  ·intro k f q1 q2 p q3
   rw [Ku listed i k (by omega)] at q2
   rw [Ku listed i p (by omega)]
   split
   ·rfl
   ·by_cases q:k=i
    ·subst q
     rw [hte] at q1
     cases q1
     exact hp p (by rw [← heo]; exact q3)
    ·rw [if_neg q] at q2
     exact hcl k f q1 q2 p q3
end
end
section
def Bjh (l:List (Nat×AV)) (i:Nat):AV:=match l with
 | []=>.dead
 | (j,v)::r=>bif Nat.beq j i then v else Bjh r i
def Beo (l:List Ze) (i:Nat):Ze:=match l,i with
 | [],_=>.unborn
 | r::_,0=>r
 | _::l,i + 1=>Beo l i
def Bji (cs:List (Nat×AV)) (rs:List Ze):St:=⟨Bjh cs,Beo rs⟩
def Agl (us:List Nat) (id:Nat):Option Nat:=match us with
 | []=>none
 | j::r=>bif Nat.beq j id then some 0 else (Agl r id).map (· + 1)
def A8a (s:St) (us:List Nat):Lf→Option Lf
 | .c v=>some (.c v)
 | .sl t xs=>some (.sl t xs)
 | .row id=>match s.res id with
  | .frozen t xs=>some (.sl t xs)
  | _=>(Agl us id).map .row
 | .ptr id off=>(Agl us id).map fun j=>.ptr j off
 | .ep t xs i off=>some (.ep t xs i off)
 | .rp id i off=>(Agl us id).map fun j=>.rp j i off
 | .sp id=>(Agl us id).map fun j=>.sp j
def Aw5 (s:St) (us:List Nat):List Lf→Option (List Lf)
 | []=>some []
 | l::r=>(A8a s us l).bind fun l'=>(Aw5 s us r).map fun r'=>l'::r'
def Bon (s:St) (us:List Nat):Vl→Option Vl
 | .lf l=>(A8a s us l).map .lf
 | .ag ls=>(Aw5 s us ls).map .ag
def A0r (s:St) (us:List Nat):List Vl→Option (List Vl)
 | []=>some []
 | l::r=>(Bon s us l).bind fun l'=>(A0r s us r).map fun r'=>l'::r'
def A8b (s:St) (us:List Nat):AV→AV
 | .dead=>.dead
 | .vl v=>match Bon s us v with
  | some v=>.vl v
  | none=>.dead
 | .tp vs=>match A0r s us vs with
  | some vs=>.tp vs
  | none=>.dead
 | .fn f ls=>match Aw5 s us ls with
  | some ls=>.fn f ls
  | none=>.dead
def Gd (s:St) (us:List Nat):Ze→Ze
 | .box T ls=>match Aw5 s us ls with
  | some ls=>.box T ls
  | none=>.dead
 | .last e t xs c j=>match Agl us j with
  | some j'=>.last e t xs c j'
  | none=>.dead
 | r=>r
def Aw6 (s:St):List Lf→List Nat
 | []=>[]
 | .row id::r=>match s.res id with
  | .frozen _ _=>Aw6 s r
  | _=>id::Aw6 s r
 | .ptr id _::r=>id::Aw6 s r
 | .rp id _ _::r=>id::Aw6 s r
 | .sp id::r=>id::Aw6 s r
 | _::r=>Aw6 s r
def Boo:List Vl→List Lf
 | []=>[]
 | v::r=>v.ls++Boo r
def Bxj:AV→List Lf
 | .dead=>[]
 | .vl v=>v.ls
 | .tp vs=>Boo vs
 | .fn _ ls=>ls
def Bep (s:St):List Nat→List Lf
 | []=>[]
 | i::r=>Bxj (s.cell i)++Bep s r
def Bgu (s:St):List Nat→List Lf
 | []=>[]
 | i::r=>(match s.res i with | .box _ ls=>ls | .last _ _ _ _ j=>[.row j] | _=>[])++Bgu s r
def A8c (us:List Nat):List Nat→List Nat
 | []=>us
 | i::r=>if Ry us i then A8c us r else A8c (us++[i]) r
def Byz (n:Nat):List Nat:=List.range n
def A6o (s:St) (np:Nat) (live:List Nat):List Nat:=
 let l0:=A8c (Byz np) (Aw6 s (Bep s live))
 let l1:=A8c l0 (Aw6 s (Bgu s l0))
 A8c l1 (Aw6 s (Bgu s l1))
def Bgv (s:St) (us:List Nat):List Nat→List (Nat×AV)
 | []=>[]
 | i::r=>(i,A8b s us (s.cell i))::Bgv s us r
def Bck (s:St) (us:List Nat):List Nat→List Ze
 | []=>[]
 | i::r=>Gd s us (s.res i)::Bck s us r
def Aq5:Nat→Nat→List Nat→Bool
 | _,0,_=>true
 | k,m + 1,i::r=>Nat.beq i k&&Aq5 (k + 1) m r
 | _,_ + 1,[]=>false
def canon (np:Nat) (live:List Nat) (s:St):Option (St×Nat):=
 let us:=A6o s np live
 if Aak us&&Aq5 0 np us then some (Bji (Bgv s us live) (Bck s us us),us.length) else none
section
variable {P:Program} {n B:Nat} {Iq:List Nat} {s:St} {g:Gh} {a:Act} {w:World}
theorem Beq {us:List Nat} {id j:Nat} (h:Agl us id=some j):us[j]? = some id:=by
 induction us generalizing j with
 | nil=>simp [Agl] at h
 | cons k r ih=>
  simp only [Agl] at h
  cases hq:Nat.beq k id with
  | true=>
   rw [hq] at h
   simp at h
   subst h
   simp [Nat.eq_of_beq_eq_true hq]
  | false=>
   rw [hq] at h
   simp only [cond_false] at h
   obtain ⟨i,h1,rfl⟩:=Option.map_eq_some_iff.1 h
   simpa using ih h1
theorem Ber {us':List Nat}:∀ {us:List Nat} {j:Nat},Beo (Bck s us' us) j=match us[j]? with | some id=>Gd s us' (s.res id) | none=>.unborn
 | [],_=>by simp [Bck,Beo]
 | i::r,0=>by simp [Bck,Beo]
 | i::r,j + 1=>by
  simp only [Bck,Beo]
  rw [Ber (us:=r)]
  simp
theorem Bes {us:List Nat}:∀ {l:List Nat} {i:Nat},Bjh (Bgv s us l) i=if i∈l then A8b s us (s.cell i) else .dead
 | [],i=>by simp [Bgv,Bjh]
 | j::r,i=>by
  simp only [Bgv,Bjh]
  cases hq:Nat.beq j i with
  | true=>
   have:=Nat.eq_of_beq_eq_true hq
   subst this
   simp
  | false=>
   have:j≠i:=fun e=>by subst e; simp at hq
   simp only [cond_false]
   rw [Bes (l:=r)]
   simp [Ne.symm this]
section
variable {us live:List Nat}
def Yc (s:St) (us:List Nat) (g:Gh):Gh:=⟨fun j=>match us[j]? with | some id=>if (Gd s us (s.res id)).live then g.blk id else none | none=>none,fun j=>match us[j]? with | some id=>g.hdr id | none=>undef,g.av⟩
theorem Bsj {r:Ze} (h:(Gd s us r).live=true):r.live=true:=by
 cases r<;>simp only [Gd] at h<;>first | exact h | rfl
theorem Bsk {s':St} (hs:∀ j,s'.res j=match us[j]? with | some id=>Gd s us (s.res id) | none=>.unborn) (b:Nat) (hb:Ho s g b):Ho s' (Yc s us g) b:=by
 refine ⟨hb.1,fun j hl hk=>?_⟩
 rw [hs] at hl
 simp only [Yc] at hk
 cases hu:us[j]? with
 | none=>rw [hu] at hl; cases hl
 | some id=>
  rw [hu] at hl hk
  simp only at hl hk
  rw [if_pos hl] at hk
  exact hb.2 id (Bsj hl) hk
theorem Bop {s':St} (hs:∀ j,s'.res j=match us[j]? with | some id=>Gd s us (s.res id) | none=>.unborn) (hres:∀ id,Sr s g w id (s.res id)):
  ∀ {l l':Lf} {u:Value},A8a s us l=some l'→Fy s g w l u→Fy s' (Yc s us g) w l' u:=by
 have hS:∀ b,Ho s g b→b < w.heap.size→Ho s' (Yc s us g) b∧w.heap[b]? = w.heap[b]? := fun b hb _=>⟨Bsk hs b hb,rfl⟩
 have hat:∀ {id j:Nat},Agl us id=some j→s'.res j=Gd s us (s.res id)∧(Yc s us g).hdr j=g.hdr id∧((Gd s us (s.res id)).live=true→(Yc s us g).blk j=g.blk id):=by
  intro id j h
  have hu:=Beq h
  refine ⟨by rw [hs,hu],by simp only [Yc,hu],fun hl=>by simp only [Yc,hu]; rw [if_pos hl]⟩
 intro l l' u h hl
 cases l with
 | c v=>cases h; exact hl
 | sl t xs=>cases h; exact Ty.K_keep hS hl
 | row id=>
  simp only [A8a] at h
  split at h
  ·rename_i t xs hr
   cases h
   have r:=hres id
   rw [hr] at r
   simp only [Fy,hr] at hl
   rw [hl]
   exact Ty.K_keep hS r.1
  ·rename_i hn
   obtain ⟨j,h1,rfl⟩:=Option.map_eq_some_iff.1 h
   obtain ⟨a1,a2,a3⟩:=hat h1
   simp only [Fy] at hl ⊢
   rw [a1,a2]
   cases hr:s.res id with
   | unborn=>rw [hr] at hl; exact hl.elim
   | dead=>trivial
   | box T ls=>rw [hr] at hl; exact hl.elim
   | row e t xs=>rw [hr] at hl; exact hl
   | frozen t xs=>exact absurd hr (hn t xs)
   | last e t xs c k=>
    rw [hr] at hl
    simp only [Gd]
    cases hq:Agl us k with
    | none=>trivial
    | some k'=>exact hl
   | map t xs=>rw [hr] at hl; exact hl
   | iter t xs seen cur=>rw [hr] at hl; exact hl
 | ptr id off=>
  simp only [A8a] at h
  obtain ⟨j,h1,rfl⟩:=Option.map_eq_some_iff.1 h
  obtain ⟨a1,a2,a3⟩:=hat h1
  simp only [Fy] at hl ⊢
  rw [a1]
  cases hr:s.res id with
  | unborn=>rw [hr] at hl; exact hl.elim
  | dead=>trivial
  | box T ls=>
   rw [hr] at hl a3
   simp only [Gd] at a3 ⊢
   cases hq:Aw5 s us ls with
   | none=>trivial
   | some ls'=>
    rw [hq] at a3
    obtain ⟨b,hb,hu⟩:=hl
    exact ⟨b,(a3 rfl).trans hb,hu⟩
  | row e t xs=>rw [hr] at hl; exact hl.elim
  | frozen t xs=>rw [hr] at hl; exact hl.elim
  | last _ _ _ _ _=>rw [hr] at hl; exact hl.elim
  | map _ _=>rw [hr] at hl; exact hl.elim
  | iter _ _ _ _=>rw [hr] at hl; exact hl.elim
 | ep t xs i off=>
  cases h
  obtain ⟨ad,cs,h1,h2,h3,h4,h5⟩:=hl
  exact ⟨ad,cs,h1,Bsk hs _ h2,h3,Ty.K_keep hS h4,h5⟩
 | rp id i off=>
  simp only [A8a] at h
  obtain ⟨j,h1,rfl⟩:=Option.map_eq_some_iff.1 h
  obtain ⟨a1,a2,a3⟩:=hat h1
  simp only [Fy] at hl ⊢
  rw [a1]
  cases hr:s.res id with
  | unborn=>rw [hr] at hl; exact hl.elim
  | dead=>trivial
  | box T ls=>rw [hr] at hl; exact hl.elim
  | row e t xs=>
   rw [hr] at hl a3
   obtain ⟨hi,b,hb,hu⟩:=hl
   exact ⟨hi,b,(a3 rfl).trans hb,hu⟩
  | frozen t xs=>trivial
  | last e t xs c k=>
   rw [hr] at hl a3
   simp only [Gd] at a3 ⊢
   cases hq:Agl us k with
   | none=>trivial
   | some k'=>
    rw [hq] at a3
    obtain ⟨hi,b,hb,hu⟩:=hl
    exact ⟨hi,b,(a3 rfl).trans hb,hu⟩
  | map _ _=>rw [hr] at hl; exact hl.elim
  | iter _ _ _ _=>rw [hr] at hl; exact hl.elim
 | sp id=>
  simp only [A8a] at h
  obtain ⟨j,h1,rfl⟩:=Option.map_eq_some_iff.1 h
  obtain ⟨a1,a2,a3⟩:=hat h1
  simp only [Fy] at hl ⊢
  rw [a1]
  cases hr:s.res id with
  | unborn=>rw [hr] at hl; exact hl.elim
  | dead=>trivial
  | box T ls=>
   rw [hr] at hl a3
   simp only [Gd] at a3 ⊢
   cases hq:Aw5 s us ls with
   | none=>trivial
   | some ls'=>
    rw [hq] at a3
    rcases hl with hl | ⟨b,hb,hu⟩
    ·exact .inl hl
    ·exact .inr ⟨b,(a3 rfl).trans hb,hu⟩
  | row e t xs=>rw [hr] at hl; exact hl.elim
  | frozen t xs=>rw [hr] at hl; exact hl.elim
  | last _ _ _ _ _=>rw [hr] at hl; exact hl.elim
  | map _ _=>rw [hr] at hl; exact hl.elim
  | iter _ _ _ _=>rw [hr] at hl; exact hl.elim
section
variable {s':St} (hs:∀ j,s'.res j=match us[j]? with | some id=>Gd s us (s.res id) | none=>.unborn) (hres:∀ id,Sr s g w id (s.res id))
 include hs hres
theorem A6p:∀ {ls ls':List Lf} {cs:List Value},Aw5 s us ls=some ls'→L1 s g w ls cs→L1 s' (Yc s us g) w ls' cs
 | [],ls',[],h,_=>by cases h; trivial
 | [],_,_::_,_,h=>h.elim
 | _::_,_,[],_,h=>h.elim
 | l::r,ls',c::cs,h,hL=>by
  simp only [Aw5] at h
  obtain ⟨l',h1,h2⟩:=By h
  obtain ⟨r',h3,rfl⟩:=Option.map_eq_some_iff.1 h2
  exact ⟨⟨Bop hs hres h1 hL.1.1,hL.1.2⟩,A6p h3 hL.2⟩
theorem Boq {v v':Vl} {u:Value} (h:Bon s us v=some v') (hv:VlR s g w v u):VlR s' (Yc s us g) w v' u:=by
 cases v with
 | lf l=>
  obtain ⟨l',h1,rfl⟩:=Option.map_eq_some_iff.1 h
  exact ⟨Bop hs hres h1 hv.1,hv.2⟩
 | ag ls=>
  obtain ⟨l',h1,rfl⟩:=Option.map_eq_some_iff.1 h
  obtain ⟨cs,e1,e2⟩:=hv
  exact ⟨cs,e1,A6p hs hres h1 e2⟩
 omit hs hres in
theorem A8d:∀ {vs vs':List Vl} {j:Nat} {v':Vl},A0r s us vs=some vs'→vs'[j]? = some v'→∃ v,vs[j]? = some v∧Bon s us v=some v'
 | [],vs',j,v',h,hj=>by cases h; simp at hj
 | v::r,vs',j,v',h,hj=>by
  simp only [A0r] at h
  obtain ⟨l',h1,h2⟩:=By h
  obtain ⟨r',h3,rfl⟩:=Option.map_eq_some_iff.1 h2
  cases j with
  | zero=>simp at hj; subst hj; exact ⟨v,rfl,h1⟩
  | succ j=>
   obtain ⟨x,e1,e2⟩:=A8d h3 (j:=j) (by simpa using hj)
   exact ⟨x,by simpa using e1,e2⟩
 omit hs hres in
theorem A8e:∀ {vs vs':List Vl},A0r s us vs=some vs'→vs'.length=vs.length
 | [],vs',h=>by cases h; rfl
 | v::r,vs',h=>by
  simp only [A0r] at h
  obtain ⟨l',h1,h2⟩:=By h
  obtain ⟨r',h3,rfl⟩:=Option.map_eq_some_iff.1 h2
  simp [A8e h3]
theorem Bu2 {v:AV} {u:Value} (hv:AVR s g w v u):AVR s' (Yc s us g) w (A8b s us v) u:=by
 cases v with
 | dead=>trivial
 | vl v=>
  simp only [A8b]
  split
  ·rename_i v' h
   exact Boq hs hres h hv
  ·trivial
 | tp vs=>
  simp only [A8b]
  split
  ·rename_i vs' h
   obtain ⟨cs,h1,h2,h3⟩:=hv
   refine ⟨cs,h1,by rw [A8e h]; exact h2,fun j l hl=>?_⟩
   obtain ⟨v,e1,e2⟩:=A8d h hl
   obtain ⟨x,e3,e4⟩:=h3 j v e1
   exact ⟨x,e3,Boq hs hres e2 e4⟩
  ·trivial
 | fn f ls=>
  simp only [A8b]
  split
  ·rename_i ls' h
   obtain ⟨cs,h1,h2⟩:=hv
   exact ⟨cs,h1,A6p hs hres h h2⟩
  ·trivial
end
end
theorem Bsl (h:Cx n B Iq s g a w) {np:Nat} {live:List Nat} {s':St} {nid:Nat} (e:canon np live s=some (s',nid)):
  ∃ g',Cx n B Iq s' g' a w∧g'.av=g.av∧∀ id,id < np→(s'.res id=.unborn→s.res id=.unborn)∧(∀ T ls,s'.res id=.box T ls→(∃ T' ls',s.res id=.box T' ls')∧g'.blk id=g.blk id)∧(∀ e,∀ t:Ty,∀ xs:List t.D,s'.res id=.row e t xs→(∃ e',∃ xs':List t.D,s.res id=.row e' t xs')∧g'.blk id=g.blk id∧g'.hdr id=g.hdr id):=by
 unfold canon at e
 dsimp only at e
 generalize hus:A6o s np live=us at e
 split at e<;>cases e
 rename_i hc
 simp only [Bool.and_eq_true] at hc
 have hnd:=Awo hc.1
 have hs:∀ j,(Bji (Bgv s us live) (Bck s us us)).res j=match us[j]? with | some id=>Gd s us (s.res id) | none=>.unborn:=fun j=>Ber
 have hcell:∀ i,(Bji (Bgv s us live) (Bck s us us)).cell i=if i∈live then A8b s us (s.cell i) else .dead:=fun i=>Bes
 generalize Bji (Bgv s us live) (Bck s us us)=s' at hs hcell ⊢
 have hst:∀ k m l,Aq5 k m l=true→∀ j,j < m→l[j]? = some (k + j):=by
  intro k m
  induction m generalizing k with
  | zero=>intro l _ j hj; omega
  | succ m ih=>
   intro l hl j hj
   cases l with
   | nil=>simp [Aq5] at hl
   | cons i r=>
    simp only [Aq5,Bool.and_eq_true] at hl
    cases j with
    | zero=>simp [Nat.eq_of_beq_eq_true hl.1]
    | succ j=>
     have:=ih (k + 1) r hl.2 j (by omega)
     rw [List.getElem?_cons_succ,this]
     congr 1
     omega
 have hpin:∀ id,id < np→us[id]? = some id:=fun id hid=>by have:=hst 0 np us hc.2 id hid; simpa using this
 have blk_of:∀ j b,(Yc s us g).blk j=some b→∃ id,us[j]? = some id∧g.blk id=some b∧(Gd s us (s.res id)).live=true:=by
  intro j b hb
  simp only [Yc] at hb
  cases hu:us[j]? with
  | none=>rw [hu] at hb; cases hb
  | some id=>
   rw [hu] at hb
   simp only at hb
   split at hb
   ·rename_i hl
    exact ⟨id,rfl,hb,hl⟩
   ·cases hb
 refine ⟨Yc s us g,⟨h.size,h.defers,h.base,fun i=>?_,fun j=>?_,fun i j b hi hj=>?_,fun j b hb=>?_,h.avB⟩,rfl,fun id hid=>?_⟩
 ·rw [hcell]
  split
  ·exact Bu2 hs h.res (h.cell i)
  ·trivial
 ·rw [hs]
  cases hu:us[j]? with
  | none=>show (Yc s us g).blk j=none; simp only [Yc,hu]
  | some id=>
   simp only
   have r:=h.res id
   have hblk:(Yc s us g).blk j=if (Gd s us (s.res id)).live then g.blk id else none:=by simp only [Yc,hu]
   have hhdr:(Yc s us g).hdr j=g.hdr id:=by simp only [Yc,hu]
   have hSS:∀ b,Ho s g b→b < w.heap.size→Ho s' (Yc s us g) b:=fun b hb _=>Bsk hs b hb
   cases hr:s.res id with
   | unborn=>rw [hr] at hblk; exact hblk
   | dead=>rw [hr] at hblk; exact hblk
   | box T ls=>
    rw [hr] at r hblk
    cases hq:Aw5 s us ls with
    | none=>
     have hrr:Gd s us (.box T ls)=.dead:=by simp only [Gd,hq]
     rw [hrr] at hblk ⊢
     exact hblk
    | some ls'=>
     have hrr:Gd s us (.box T ls)=.box T ls':=by simp only [Gd,hq]
     rw [hrr] at hblk ⊢
     obtain ⟨b,cs,h1,h2,h3⟩:=r
     exact ⟨b,cs,hblk.trans h1,h2,A6p hs h.res hq h3⟩
   | row e t xs=>
    rw [hr] at r hblk
    obtain ⟨cs,h1,h2,h3⟩:=r
    exact ⟨cs,by rw [hhdr]; exact h1,h2.imp hSS,by rw [hhdr]; exact hblk.trans h3⟩
   | frozen t xs=>
    rw [hr] at r hblk
    exact ⟨by rw [hhdr]; exact Ty.K_keep (fun b hb hl=>⟨hSS b hb hl,rfl⟩) r.1,hblk⟩
   | last e t xs c k=>
    rw [hr] at r hblk
    cases hq:Agl us k with
    | none=>
     have hrr:Gd s us (.last e t xs c k)=.dead:=by simp only [Gd,hq]
     rw [hrr] at hblk ⊢
     exact hblk
    | some k'=>
     have hrr:Gd s us (.last e t xs c k)=.last e t xs c k':=by simp only [Gd,hq]
     rw [hrr] at hblk ⊢
     obtain ⟨cs,h1,h2,h3,h4⟩:=r
     refine ⟨cs,by rw [hhdr]; exact h1,h2.imp hSS,by rw [hhdr]; exact hblk.trans h3,fun u hc hu=>?_⟩
     have h5:=h4 u hc hu
     have hk':=Beq hq
     have e1:s'.res k'=Gd s us (s.res k):=by rw [hs,hk']
     have e2:(Yc s us g).hdr k'=g.hdr k:=by simp only [Yc,hk']
     rw [e1,e2]
     cases hrk:s.res k with
     | unborn=>rw [hrk] at h5; exact h5.elim
     | dead=>trivial
     | box T ls=>rw [hrk] at h5; exact h5.elim
     | row _ _ _=>rw [hrk] at h5; exact h5
     | frozen _ _=>rw [hrk] at h5; exact h5
     | last _ _ _ _ _=>rw [hrk] at h5; exact h5.elim
     | map _ _=>rw [hrk] at h5; exact h5.elim
     | iter _ _ _ _=>rw [hrk] at h5; exact h5.elim
   | map t xs=>
    rw [hr] at r hblk
    obtain ⟨b,es,clock,h1,h2,h3⟩:=r
    exact ⟨b,es,clock,hblk.trans h1,hhdr.trans h2,h3⟩
   | iter t xs seen cur=>
    rw [hr] at r hblk
    obtain ⟨b,r,es,clock,since,c0,sn,h1,h2,h3,h4,h5,h6⟩:=r
    exact ⟨b,r,es,clock,since,c0,sn,hblk.trans h1,hhdr.trans h2,h3,hSS b h4 h5,h5,h6⟩
 ·obtain ⟨i0,e1,e2,_⟩:=blk_of i b hi
  obtain ⟨j0,e3,e4,_⟩:=blk_of j b hj
  have:=h.inj i0 j0 b e2 e4
  subst this
  have hil:=(List.getElem?_eq_some_iff.1 e1).1
  exact (List.getElem?_inj hil hnd).1 (e1.trans e3.symm)
 ·obtain ⟨id,e1,e2,_⟩:=blk_of j b hb
  exact h.lt id b e2
 ·have hu:=hpin id hid
  have hsr:s'.res id=Gd s us (s.res id):=by rw [hs,hu]
  have hb:(Yc s us g).blk id=if (Gd s us (s.res id)).live then g.blk id else none:=by simp only [Yc,hu]
  have hh:(Yc s us g).hdr id=g.hdr id:=by simp only [Yc,hu]
  refine ⟨fun hq=>?_,fun T ls hq=>?_,fun e t xs hq=>?_⟩
  ·rw [hsr] at hq
   cases hr:s.res id with
   | unborn=>rfl
   | box T ls=>
    rw [hr] at hq
    simp only [Gd] at hq
    split at hq<;>cases hq
   | dead=>rw [hr] at hq; cases hq
   | row e t xs=>rw [hr] at hq; cases hq
   | frozen t xs=>rw [hr] at hq; cases hq
   | last _ _ _ _ _=>
    rw [hr] at hq
    simp only [Gd] at hq
    split at hq<;>cases hq
   | map _ _=>rw [hr] at hq; cases hq
   | iter _ _ _ _=>rw [hr] at hq; cases hq
  ·rw [hsr] at hq
   rw [hq] at hb
   refine ⟨?_,hb⟩
   cases hr:s.res id with
   | unborn=>rw [hr] at hq; cases hq
   | box T ls=>exact ⟨T,ls,rfl⟩
   | dead=>rw [hr] at hq; cases hq
   | row e t xs=>rw [hr] at hq; cases hq
   | frozen t xs=>rw [hr] at hq; cases hq
   | last _ _ _ _ _=>
    rw [hr] at hq
    simp only [Gd] at hq
    split at hq<;>cases hq
   | map _ _=>rw [hr] at hq; cases hq
   | iter _ _ _ _=>rw [hr] at hq; cases hq
  ·rw [hsr] at hq
   rw [hq] at hb
   refine ⟨?_,hb,hh⟩
   cases hr:s.res id with
   | unborn=>rw [hr] at hq; cases hq
   | box T ls=>
    rw [hr] at hq
    simp only [Gd] at hq
    split at hq<;>cases hq
   | dead=>rw [hr] at hq; cases hq
   | row e t xs=>rw [hr] at hq; cases hq; exact ⟨e,xs,rfl⟩
   | frozen t xs=>rw [hr] at hq; cases hq
   | last _ _ _ _ _=>
    rw [hr] at hq
    simp only [Gd] at hq
    split at hq<;>cases hq
   | map _ _=>rw [hr] at hq; cases hq
   | iter _ _ _ _=>rw [hr] at hq; cases hq
end
end
section
inductive Pe where
 | d (t:Ty)
 | row (id:Nat)
 | ptr (id off:Nat)
 | sp (id:Nat)
inductive Pv where
 | dead
 | lf (p:Pe)
 | ag (ps:List Pe)
 | fn (f:FuncId) (ps:List Pe)
inductive Pr where
 | dead
 | unborn
 | box (T:TypeId) (ps:List Pe)
 | row (e:TypeId) (t:Ty)
 | last (e:TypeId) (t:Ty) (j:Nat)
 | map (t:Ty)
 | iter (t:Ty)
inductive Fx where
 | sl (slot ix:Nat) (t:Ty)
 | row (slot ix:Nat) (e:TypeId) (t:Ty)
 | boxSl (slot ix:Nat) (t:Ty)
 | boxRow (slot ix:Nat) (e:TypeId) (t:Ty)
 | self (slot ix:Nat)
 | last (slot:Nat) (e:TypeId) (t:Ty)
structure C2 where
 fx:List Fx
 cs:List (Nat×Pv)
 rs:List Pr
def A8f:List Pe→Type→Type
 | [],X=>X
 | .d t::r,X=>t.D×A8f r X
 | .row _::r,X=>A8f r X
 | .ptr _ _::r,X=>A8f r X
 | .sp _::r,X=>A8f r X
def PvD:Pv→Type→Type
 | .dead,X=>X
 | .lf p,X=>A8f [p] X
 | .ag ps,X=>A8f ps X
 | .fn _ ps,X=>A8f ps X
def CsD:List (Nat×Pv)→Type→Type
 | [],X=>X
 | p::r,X=>PvD p.2 (CsD r X)
def PrD:Pr→Type→Type
 | .dead,X=>X
 | .unborn,X=>X
 | .box _ ps,X=>A8f ps X
 | .row _ t,X=>List t.D×X
 | .last _ t _,X=>List (List t.D)×Bool×X
 | .map t,X=>List (Aa×t.D)×X
 | .iter t,X=>List (Aa×t.D)×List (Aa×t.D)×Option (Aa×t.D)×X
def RsD:List Pr→Type→Type
 | [],X=>X
 | p::r,X=>PrD p (RsD r X)
def C2.D (p:C2):Type:=CsD p.cs (RsD p.rs Unit)
section
variable {X:Type}
def Ci:(ps:List Pe)→A8f ps X→List Lf×X
 | [],d=>([],d)
 | .d t::r,d=>(t.leafs d.1++(Ci r d.2).1,(Ci r d.2).2)
 | .row id::r,d=>(.row id::(Ci r d).1,(Ci r d).2)
 | .ptr id off::r,d=>(.ptr id off::(Ci r d).1,(Ci r d).2)
 | .sp id::r,d=>(.sp id::(Ci r d).1,(Ci r d).2)
def Bsm:List Lf→AV
 | [l]=>.vl (.lf l)
 | _=>.dead
def Adk:(p:Pv)→PvD p X→AV×X
 | .dead,d=>(.dead,d)
 | .lf p,d=>(Bsm (Ci [p] d).1,(Ci [p] d).2)
 | .ag ps,d=>(.vl (.ag (Ci ps d).1),(Ci ps d).2)
 | .fn f ps,d=>(.fn f (Ci ps d).1,(Ci ps d).2)
def Adl:(l:List (Nat×Pv))→CsD l X→List (Nat×AV)×X
 | [],d=>([],d)
 | p::r,d=>((p.1,(Adk p.2 d).1)::(Adl r (Adk p.2 d).2).1,(Adl r (Adk p.2 d).2).2)
def Agm:(p:Pr)→PrD p X→Ze×X
 | .dead,d=>(.dead,d)
 | .unborn,d=>(.unborn,d)
 | .box T ps,d=>(.box T (Ci ps d).1,(Ci ps d).2)
 | .row e t,d=>(.row e t d.1,d.2)
 | .last e t j,d=>(.last e t d.1 d.2.1 j,d.2.2)
 | .map t,d=>(.map t d.1,d.2)
 | .iter t,d=>(.iter t d.1 d.2.1 d.2.2.1,d.2.2.2)
def Akl:(l:List Pr)→RsD l X→List Ze×X
 | [],d=>([],d)
 | p::r,d=>((Agm p d).1::(Akl r (Agm p d).2).1,(Akl r (Agm p d).2).2)
end
def C2.st (p:C2) (d:p.D):St:=Bji (Adl p.cs d).1 (Akl p.rs (Adl p.cs d).2).1
def C2.nid (p:C2):Nat:=p.rs.length
def Bmg:(t:Ty)→Lf→Option t.D
 | .int k,.c (.int k' n)=>if k'=k then some n else none
 | .bool,.c (.bool b)=>some b
 | .str,.c (.string b)=>some b
 | .sl t,.sl t' xs=>if h:t'=t then some (h ▸ xs) else none
 | _,_=>none
def Afn:(t:Ty)→List Lf→Option (t.D×List Lf)
 | .unit,ls=>some ((),ls)
 | .pair a b,ls=>(Afn a ls).bind fun p=>(Afn b p.2).bind fun q=>some ((p.1,q.1),q.2)
 | .int k,l::r=>(Bmg (.int k) l).bind fun x=>some (x,r)
 | .bool,l::r=>(Bmg .bool l).bind fun x=>some (x,r)
 | .str,l::r=>(Bmg .str l).bind fun x=>some (x,r)
 | .sl t,l::r=>(Bmg (.sl t) l).bind fun x=>some (x,r)
 | _,[]=>none
def Bgw (id:Nat):List Lf→Option (List Lf)
 | .row j::r=>if j=id then some r else none
 | _=>none
def Bgx (id off:Nat):List Lf→Option (List Lf)
 | .ptr j o::r=>if j=id then (if o=off then some r else none) else none
 | _=>none
def Bmh (id:Nat):List Lf→Option (List Lf)
 | .sp j::r=>if j=id then some r else none
 | _=>none
def Byg {X:Type} (k:Option X):List Lf→Option X
 | []=>k
 | _::_=>none
section
variable {X:Type} (k:Option X)
def Yd:(ps:List Pe)→List Lf→Option (A8f ps X)
 | [],ls=>Byg k ls
 | .d t::r,ls=>(Afn t ls).bind fun p=>(Yd r p.2).bind fun q=>some (p.1,q)
 | .row id::r,ls=>(Bgw id ls).bind fun ls'=>Yd r ls'
 | .ptr id off::r,ls=>(Bgx id off ls).bind fun ls'=>Yd r ls'
 | .sp id::r,ls=>(Bmh id ls).bind fun ls'=>Yd r ls'
def By0:AV→Option (List Lf)
 | .vl (.ag ls)=>some ls
 | _=>none
def Byh (f:FuncId):AV→Option (List Lf)
 | .fn f' ls=>if f'=f then some ls else none
 | _=>none
def By1:AV→Option Lf
 | .vl (.lf l)=>some l
 | _=>none
def Bxk:AV→Option Unit
 | .dead=>some ()
 | _=>none
def Bsn:(p:Pv)→AV→Option (PvD p X)
 | .dead,v=>(Bxk v).bind fun _=>k
 | .lf p,v=>(By1 v).bind fun l=>Yd k [p] [l]
 | .ag ps,v=>(By0 v).bind fun ls=>Yd k ps ls
 | .fn f ps,v=>(Byh f v).bind fun ls=>Yd k ps ls
def Bws (T:TypeId):Ze→Option (List Lf)
 | .box T' ls=>if T'=T then some ls else none
 | _=>none
def Bjj (e:TypeId) (t:Ty):Ze→Option (List t.D)
 | .row e' t' xs=>if e'=e then (if h:t'=t then some (h ▸ xs) else none) else none
 | _=>none
def Bso (e:TypeId) (t:Ty) (j:Nat):Ze→Option (List (List t.D)×Bool)
 | .last e' t' xs c j'=>if e'=e then (if j'=j then (if h:t'=t then some (h ▸ xs,c) else none) else none) else none
 | _=>none
def Bwt (t:Ty):Ze→Option (List (Aa×t.D))
 | .map t' xs=>if h:t'=t then some (h ▸ xs) else none
 | _=>none
def Bsp (t:Ty):Ze→Option (List (Aa×t.D)×List (Aa×t.D)×Option (Aa×t.D))
 | .iter t' xs seen cur=>if h:t'=t then some (h ▸ xs,h ▸ seen,h ▸ cur) else none
 | _=>none
def Bu3:Ze→Option Unit
 | .dead=>some ()
 | _=>none
def Bqc:Ze→Option Unit
 | .unborn=>some ()
 | _=>none
def Bwu:(p:Pr)→Ze→Option (PrD p X)
 | .dead,v=>(Bu3 v).bind fun _=>k
 | .unborn,v=>(Bqc v).bind fun _=>k
 | .box T ps,v=>(Bws T v).bind fun ls=>Yd k ps ls
 | .row e t,v=>(Bjj e t v).bind fun xs=>k.bind fun x=>some (xs,x)
 | .last e t j,v=>(Bso e t j v).bind fun xs=>k.bind fun x=>some (xs.1,xs.2,x)
 | .map t,v=>(Bwt t v).bind fun xs=>k.bind fun x=>some (xs,x)
 | .iter t,v=>(Bsp t v).bind fun xs=>k.bind fun x=>some (xs.1,xs.2.1,xs.2.2,x)
end
def Byi {X:Type} (k:Option X) {α:Type}:List α→Option X
 | []=>k
 | _::_=>none
def Bxl {α:Type}:List α→Option (α×List α)
 | []=>none
 | a::r=>some (a,r)
def Bjk {X:Type} (k:Option X):(l:List (Nat×Pv))→List (Nat×AV)→Option (CsD l X)
 | [],cs=>Byi k cs
 | p::r,cs=>(Bxl cs).bind fun q=>if q.1.1=p.1 then Bsn (Bjk k r q.2) p.2 q.1.2 else none
def Bos {X:Type} (k:Option X):(l:List Pr)→List Ze→Option (RsD l X)
 | [],rs=>Byi k rs
 | p::r,rs=>(Bxl rs).bind fun q=>Bwu (Bos k r q.2) p q.1
theorem Afo {α β:Type} {a a':α} {b b':β} (h1:a=a') (h2:b=b'):(a,b)=(a',b'):=by rw [h1,h2]
theorem Bmi:∀ {t:Ty} {l:Lf} {x:t.D},Bmg t l=some x→t.leafs x=[l]:=by
 intro t l x h
 unfold Bmg at h
 split at h
 ·split at h<;>cases h
  rename_i hk
  subst hk
  rfl
 ·cases h; rfl
 ·cases h; rfl
 ·split at h<;>cases h
  rename_i hk
  subst hk
  rfl
 ·cases h
theorem Bgy:∀ {t:Ty} {ls:List Lf} {x:t.D} {r:List Lf},Afn t ls=some (x,r)→ls=t.leafs x++r:=by
 have one:∀ {t:Ty} {l:Lf} {r0 r:List Lf} {x:t.D},((Bmg t l).bind fun x=>some (x,r0))=some (x,r)→l::r0=t.leafs x++r:=by
  intro t l r0 r x h
  obtain ⟨y,h1,h2⟩:=By h
  cases h2
  rw [Bmi h1]
  rfl
 intro t
 induction t with
 | unit=>intro ls x r h; simp only [Afn] at h; cases h; rfl
 | pair a b iha ihb=>
  intro ls x r h
  simp only [Afn] at h
  obtain ⟨p,h1,h2⟩:=By h
  obtain ⟨q,h3,h4⟩:=By h2
  cases h4
  have e1:=iha (x:=p.1) (r:=p.2) h1
  have e2:=ihb (x:=q.1) (r:=q.2) h3
  rw [e1,e2,← List.append_assoc]
  rfl
 | int k=>intro ls x r h; cases ls with
  | nil=>simp [Afn] at h
  | cons l ls=>exact one h
 | bool=>intro ls x r h; cases ls with
  | nil=>simp [Afn] at h
  | cons l ls=>exact one h
 | str=>intro ls x r h; cases ls with
  | nil=>simp [Afn] at h
  | cons l ls=>exact one h
 | sl t _=>intro ls x r h; cases ls with
  | nil=>simp [Afn] at h
  | cons l ls=>exact one h
theorem Bmj {id:Nat} {ls r:List Lf} (h:Bgw id ls=some r):ls=.row id::r:=by
 unfold Bgw at h
 split at h
 ·split at h<;>cases h
  rename_i hj
  rw [hj]
 ·cases h
theorem Bqd {id:Nat} {ls r:List Lf} (h:Bmh id ls=some r):ls=.sp id::r:=by
 unfold Bmh at h
 split at h
 ·split at h<;>cases h
  rename_i hj
  rw [hj]
 ·cases h
theorem Bmk {id off:Nat} {ls r:List Lf} (h:Bgx id off ls=some r):ls=.ptr id off::r:=by
 unfold Bgx at h
 split at h
 ·split at h
  ·rename_i hj
   split at h<;>cases h
   rename_i ho
   rw [hj,ho]
  ·cases h
 ·cases h
section
variable {X:Type} {k:Option X}
theorem R2:∀ {ps:List Pe} {ls:List Lf} {d:A8f ps X},Yd k ps ls=some d→∃ x,k=some x∧Ci ps d=(ls,x)
 | [],ls,d,h=>by
  cases ls with
  | nil=>exact ⟨d,h,rfl⟩
  | cons l ls=>cases h
 | .d t::r,ls,d,h=>by
  simp only [Yd] at h
  obtain ⟨p,h1,h2⟩:=By h
  obtain ⟨q,h3,h4⟩:=By h2
  cases h4
  obtain ⟨x,e1,e2⟩:=R2 h3
  refine ⟨x,e1,?_⟩
  show (t.leafs p.1++(Ci r q).1,(Ci r q).2)=_
  rw [e2,Bgy (x:=p.1) (r:=p.2) h1]
 | .row id::r,ls,d,h=>by
  simp only [Yd] at h
  obtain ⟨ls',h1,h2⟩:=By h
  obtain ⟨x,e1,e2⟩:=R2 (ps:=r) (d:=d) h2
  refine ⟨x,e1,?_⟩
  show (Lf.row id::(Ci r d).1,(Ci r d).2)=_
  have e2':Ci r (X:=X) d=(ls',x):=e2
  rw [Bmj h1]
  have a1:(Ci r (X:=X) d).1=ls':=congrArg Prod.fst e2'
  have a2:(Ci r (X:=X) d).2=x:=congrArg Prod.snd e2'
  exact Afo (congrArg (List.cons (Lf.row id)) a1) a2
 | .ptr id off::r,ls,d,h=>by
  simp only [Yd] at h
  obtain ⟨ls',h1,h2⟩:=By h
  obtain ⟨x,e1,e2⟩:=R2 (ps:=r) (d:=d) h2
  refine ⟨x,e1,?_⟩
  show (Lf.ptr id off::(Ci r d).1,(Ci r d).2)=_
  have e2':Ci r (X:=X) d=(ls',x):=e2
  rw [Bmk h1]
  have a1:(Ci r (X:=X) d).1=ls':=congrArg Prod.fst e2'
  have a2:(Ci r (X:=X) d).2=x:=congrArg Prod.snd e2'
  exact Afo (congrArg (List.cons (Lf.ptr id off)) a1) a2
 | .sp id::r,ls,d,h=>by
  simp only [Yd] at h
  obtain ⟨ls',h1,h2⟩:=By h
  obtain ⟨x,e1,e2⟩:=R2 (ps:=r) (d:=d) h2
  refine ⟨x,e1,?_⟩
  show (Lf.sp id::(Ci r d).1,(Ci r d).2)=_
  have e2':Ci r (X:=X) d=(ls',x):=e2
  rw [Bqd h1]
  have a1:(Ci r (X:=X) d).1=ls':=congrArg Prod.fst e2'
  have a2:(Ci r (X:=X) d).2=x:=congrArg Prod.snd e2'
  exact Afo (congrArg (List.cons (Lf.sp id)) a1) a2
theorem Bqe {p:Pv} {v:AV} {d:PvD p X} (h:Bsn k p v=some d):∃ x,k=some x∧Adk p d=(v,x):=by
 cases p with
 | dead=>
  obtain ⟨u,h1,h2⟩:=By h
  cases v<;>first | (cases h1; done) | skip
  exact ⟨d,h2,rfl⟩
 | lf p=>
  obtain ⟨l,h1,h2⟩:=By h
  have hv:v=.vl (.lf l):=by
   cases v with
   | vl w=>cases w with
    | lf l'=>cases h1; rfl
    | ag ls=>cases h1
   | dead=>cases h1
   | tp vs=>cases h1
   | fn f ls=>cases h1
  subst hv
  obtain ⟨x,e1,e2⟩:=R2 (ps:=[p]) (d:=d) h2
  refine ⟨x,e1,?_⟩
  show (Bsm (Ci [p] d).1,(Ci [p] d).2)=_
  have e2':Ci [p] (X:=X) d=([l],x):=e2
  have a1:(Ci [p] (X:=X) d).1=[l]:=congrArg Prod.fst e2'
  have a2:(Ci [p] (X:=X) d).2=x:=congrArg Prod.snd e2'
  exact Afo (congrArg Bsm a1) a2
 | ag ps=>
  obtain ⟨l,h1,h2⟩:=By h
  have hv:v=.vl (.ag l):=by
   cases v with
   | vl w=>cases w with
    | lf l'=>cases h1
    | ag ls=>cases h1; rfl
   | dead=>cases h1
   | tp vs=>cases h1
   | fn f ls=>cases h1
  subst hv
  obtain ⟨x,e1,e2⟩:=R2 (ps:=ps) (d:=d) h2
  refine ⟨x,e1,?_⟩
  show (AV.vl (.ag (Ci ps d).1),(Ci ps d).2)=_
  have e2':Ci ps (X:=X) d=(l,x):=e2
  have a1:(Ci ps (X:=X) d).1=l:=congrArg Prod.fst e2'
  have a2:(Ci ps (X:=X) d).2=x:=congrArg Prod.snd e2'
  exact Afo (congrArg (fun l=>AV.vl (.ag l)) a1) a2
 | fn f ps=>
  obtain ⟨l,h1,h2⟩:=By h
  have hv:v=.fn f l:=by
   cases v with
   | vl w=>cases h1
   | dead=>cases h1
   | tp vs=>cases h1
   | fn f' ls=>
    simp only [Byh] at h1
    split at h1<;>cases h1
    rename_i hf
    rw [hf]
  subst hv
  obtain ⟨x,e1,e2⟩:=R2 (ps:=ps) (d:=d) h2
  refine ⟨x,e1,?_⟩
  show (AV.fn f (Ci ps d).1,(Ci ps d).2)=_
  have e2':Ci ps (X:=X) d=(l,x):=e2
  have a1:(Ci ps (X:=X) d).1=l:=congrArg Prod.fst e2'
  have a2:(Ci ps (X:=X) d).2=x:=congrArg Prod.snd e2'
  exact Afo (congrArg (fun l=>AV.fn f l) a1) a2
theorem Bqf {p:Pr} {v:Ze} {d:PrD p X} (h:Bwu k p v=some d):∃ x,k=some x∧Agm p d=(v,x):=by
 cases p with
 | dead=>
  obtain ⟨u,h1,h2⟩:=By h
  cases v<;>first | (cases h1; done) | skip
  exact ⟨d,h2,rfl⟩
 | unborn=>
  obtain ⟨u,h1,h2⟩:=By h
  cases v<;>first | (cases h1; done) | skip
  exact ⟨d,h2,rfl⟩
 | box T ps=>
  obtain ⟨ls,h1,h2⟩:=By h
  have hv:v=.box T ls:=by
   unfold Bws at h1
   split at h1
   ·split at h1<;>cases h1
    rename_i hT
    rw [hT]
   ·cases h1
  subst hv
  obtain ⟨x,e1,e2⟩:=R2 (ps:=ps) (d:=d) h2
  refine ⟨x,e1,?_⟩
  show (Ze.box T (Ci ps d).1,(Ci ps d).2)=_
  have e2':Ci ps (X:=X) d=(ls,x):=e2
  have a1:(Ci ps (X:=X) d).1=ls:=congrArg Prod.fst e2'
  have a2:(Ci ps (X:=X) d).2=x:=congrArg Prod.snd e2'
  exact Afo (congrArg (Ze.box T) a1) a2
 | row e t=>
  obtain ⟨xs,h1,h2⟩:=By h
  obtain ⟨x,h3,h4⟩:=By h2
  have hv:v=.row e t xs:=by
   unfold Bjj at h1
   split at h1
   ·split at h1
    ·rename_i he
     split at h1<;>cases h1
     rename_i ht
     subst he ht
     rfl
    ·cases h1
   ·cases h1
  subst hv
  have hd:d=(xs,x):=(Option.some.inj h4).symm
  subst hd
  exact ⟨x,h3,rfl⟩
 | last e t j=>
  obtain ⟨xs,h1,h2⟩:=By h
  obtain ⟨x,h3,h4⟩:=By h2
  have hv:v=.last e t xs.1 xs.2 j:=by
   unfold Bso at h1
   split at h1
   ·split at h1
    ·rename_i he
     split at h1
     ·rename_i hj
      split at h1<;>cases h1
      rename_i ht
      subst he ht hj
      rfl
     ·cases h1
    ·cases h1
   ·cases h1
  subst hv
  have hd:d=(xs.1,xs.2,x):=(Option.some.inj h4).symm
  subst hd
  exact ⟨x,h3,rfl⟩
 | map t=>
  obtain ⟨xs,h1,h2⟩:=By h
  obtain ⟨x,h3,h4⟩:=By h2
  have hv:v=.map t xs:=by
   unfold Bwt at h1
   split at h1
   ·split at h1<;>cases h1
    rename_i ht
    subst ht
    rfl
   ·cases h1
  subst hv
  have hd:d=(xs,x):=(Option.some.inj h4).symm
  subst hd
  exact ⟨x,h3,rfl⟩
 | iter t=>
  obtain ⟨xs,h1,h2⟩:=By h
  obtain ⟨x,h3,h4⟩:=By h2
  have hv:v=.iter t xs.1 xs.2.1 xs.2.2:=by
   unfold Bsp at h1
   split at h1
   ·split at h1<;>cases h1
    rename_i ht
    subst ht
    rfl
   ·cases h1
  subst hv
  have hd:d=(xs.1,xs.2.1,xs.2.2,x):=(Option.some.inj h4).symm
  subst hd
  exact ⟨x,h3,rfl⟩
end
theorem Bot {α:Type} {l:List α} {q:α×List α} (h:Bxl l=some q):l=q.1::q.2:=by
 cases l with
 | nil=>cases h
 | cons a r=>cases h; rfl
theorem Bet {X:Type} {k:Option X}:∀ {l:List (Nat×Pv)} {cs:List (Nat×AV)} {d:CsD l X},Bjk k l cs=some d→∃ x,k=some x∧Adl l d=(cs,x)
 | [],cs,d,h=>by
  cases cs with
  | nil=>exact ⟨d,h,rfl⟩
  | cons l ls=>cases h
 | p::r,cs,d,h=>by
  simp only [Bjk] at h
  obtain ⟨q,h1,h2⟩:=By h
  rw [Bot h1]
  have h2:(if q.1.1=p.1 then Bsn (Bjk k r q.2) p.2 q.1.2 else none:Option (PvD p.2 (CsD r X)))=some d:=h2
  split at h2
  ·rename_i hi
   obtain ⟨y,e1,e2⟩:=Bqe (d:=d) h2
   obtain ⟨x,e3,e4⟩:=Bet e1
   refine ⟨x,e3,?_⟩
   show ((p.1,(Adk p.2 d).1)::(Adl r (Adk p.2 d).2).1,(Adl r (Adk p.2 d).2).2)=_
   have e2':Adk p.2 (X:=CsD r X) d=(q.1.2,y):=e2
   have a1:(Adk p.2 (X:=CsD r X) d).1=q.1.2:=congrArg Prod.fst e2'
   have a2:(Adk p.2 (X:=CsD r X) d).2=y:=congrArg Prod.snd e2'
   have a3:Adl r (Adk p.2 (X:=CsD r X) d).2=(q.2,x):=(congrArg (Adl r) a2).trans e4
   have a4:(Adl r (Adk p.2 (X:=CsD r X) d).2).1=q.2:=congrArg Prod.fst a3
   have a5:(Adl r (Adk p.2 (X:=CsD r X) d).2).2=x:=congrArg Prod.snd a3
   have a6:(p.1,(Adk p.2 (X:=CsD r X) d).1)=q.1:=(Afo hi.symm a1).trans rfl
   exact Afo (congr (congrArg List.cons a6) a4) a5
  ·cases h2
theorem Beu {X:Type} {k:Option X}:∀ {l:List Pr} {rs:List Ze} {d:RsD l X},Bos k l rs=some d→∃ x,k=some x∧Akl l d=(rs,x)
 | [],rs,d,h=>by
  cases rs with
  | nil=>exact ⟨d,h,rfl⟩
  | cons l ls=>cases h
 | p::r,rs,d,h=>by
  simp only [Bos] at h
  obtain ⟨q,h1,h2⟩:=By h
  rw [Bot h1]
  obtain ⟨y,e1,e2⟩:=Bqf (d:=d) h2
  obtain ⟨x,e3,e4⟩:=Beu e1
  refine ⟨x,e3,?_⟩
  show ((Agm p d).1::(Akl r (Agm p d).2).1,(Akl r (Agm p d).2).2)=_
  have e2':Agm p (X:=RsD r X) d=(q.1,y):=e2
  have a1:(Agm p (X:=RsD r X) d).1=q.1:=congrArg Prod.fst e2'
  have a2:(Agm p (X:=RsD r X) d).2=y:=congrArg Prod.snd e2'
  have a3:Akl r (Agm p (X:=RsD r X) d).2=(q.2,x):=(congrArg (Akl r) a2).trans e4
  have a4:(Akl r (Agm p (X:=RsD r X) d).2).1=q.2:=congrArg Prod.fst a3
  have a5:(Akl r (Agm p (X:=RsD r X) d).2).2=x:=congrArg Prod.snd a3
  exact Afo (congr (congrArg List.cons a1) a4) a5
def Bou:Lf→Bool
 | .c (.slice none 0 0)=>true
 | _=>false
def Bev (v:Vl) (i:Nat) (l:Lf):Vl:=match v with
 | .lf l0=>if i=0 then .lf l else .lf l0
 | .ag ls=>.ag (ls.set i l)
def Bew (ls:List Lf) (i:Nat):Bool:=match ls[i]? with
 | some l=>Bou l
 | none=>false
def Bsq (id:Nat) (ls:List Lf) (i:Nat):Bool:=match ls[i]? with
 | some (.c (.pointer none))=>true
 | some (.ptr j 0)=>Nat.beq j id
 | _=>false
def Byj (t tt:Ty) (xs:List tt.D):Option (List (List t.D)):=if h:tt=.sl t then some (show List (Ty.sl t).D from h ▸ xs) else none
def Bjl (s:St) (nid:Nat):Fx→Option (St×Nat)
 | .sl slot i t=>match s.cell slot with
  | .vl v=>if Bew v.ls i then some (s.setCell slot (.vl (Bev v i (.sl t []))),nid) else some (s.frz (v.ls[i]?).toList,nid)
  | _=>some (s,nid)
 | .row slot i e t=>match s.cell slot with
  | .vl v=>if Bew v.ls i then (match s.res nid with
   | .unborn=>some ((s.setRes nid (.row e t [])).setCell slot (.vl (Bev v i (.row nid))),nid + 1)
   | _=>none) else some (s,nid)
  | _=>some (s,nid)
 | .boxSl slot i t=>match s.cell slot with
  | .vl (.lf (.ptr id 0))=>match s.res id with
   | .box T ls=>if Bew ls i then some (s.setRes id (.box T (ls.set i (.sl t []))),nid) else some (s.frz (ls[i]?).toList,nid)
   | _=>some (s,nid)
  | _=>some (s,nid)
 | .boxRow slot i e t=>match s.cell slot with
  | .vl (.lf (.ptr id 0))=>match s.res id with
   | .box T ls=>if Bew ls i then (match s.res nid with
    | .unborn=>some ((s.setRes nid (.row e t [])).setRes id (.box T (ls.set i (.row nid))),nid + 1)
    | _=>none) else some (s,nid)
   | _=>some (s,nid)
  | _=>some (s,nid)
 | .self slot i=>match s.cell slot with
  | .vl (.lf (.ptr id 0))=>match s.res id with
   | .box T ls=>if Bsq id ls i then some (s.setRes id (.box T (ls.set i (.sp id))),nid) else some (s,nid)
   | _=>some (s,nid)
  | _=>some (s,nid)
 | .last slot e1 t=>match s.cell slot with
  | .vl (.lf (.row id))=>match s.res id with
   | .row e tt xs=>match Byj t tt xs,s.res nid,s.res (nid + 1) with
    | some ys,.unborn,.unborn=>some (((I1 (s.setRes (nid + 1) (.row e1 t [])) (some id)).setRes nid (.last e t ys false (nid + 1))).setCell slot (.vl (.lf (.row nid))),nid + 2)
    | _,_,_=>none
   | _=>some (s,nid)
  | _=>some (s,nid)
def Bov (s:St) (nid:Nat):List Fx→Option (St×Nat)
 | []=>some (s,nid)
 | f::r=>(Bjl s nid f).bind fun p=>Bov p.1 p.2 r
def A6q:List (Nat×Pv)→List Nat
 | []=>[]
 | p::r=>p.1::A6q r
def Bsr (np:Nat) (live:List Nat) (s:St):Option (List (Nat×AV)×List Ze):=
 let us:=A6o s np live
 if Aak us&&Aq5 0 np us then some (Bgv s us live,Bck s us us) else none
def C2.mtch (np:Nat) (p:C2) (s:St) (nid:Nat):Option p.D:=
 (Bov s nid p.fx).bind fun q=>(Bsr np (A6q p.cs) q.1).bind fun l=>Bjk (Bos (some ()) p.rs l.2) p.cs l.1
section
variable {P:Program} {n B:Nat} {Iq:List Nat} {s:St} {g:Gh} {a:Act} {w:World}
theorem Aq6 {ls:List Lf} {i:Nat} (h:Bew ls i=true):ls[i]? = some (.c (.slice none 0 0)):=by
 unfold Bew at h
 split at h
 ·rename_i l hl
  unfold Bou at h
  split at h
  ·exact hl
  ·cases h
 ·cases h
theorem Bow {s':St} {g':Gh} {v:Vl} {i:Nat} {l:Lf} {u:Value} (hv:VlR s' g' w v u) (hn:v.ls[i]? = some (.c (.slice none 0 0))) (hl:Fy s' g' w l (.slice none 0 0)):VlR s' g' w (Bev v i l) u:=by
 cases v with
 | lf l0=>
  unfold Bev
  simp only
  split
  ·rename_i hi
   subst hi
   simp [Vl.ls] at hn
   subst hn
   obtain ⟨h1,h2⟩:=hv
   have h1':u=.slice none 0 0:=h1
   subst h1'
   exact ⟨hl,rfl⟩
  ·exact hv
 | ag ls=>
  obtain ⟨cs,e1,e2⟩:=hv
  obtain ⟨v0,q1,q2,q3⟩:=e2.get hn
  have q2':v0=.slice none 0 0:=q2
  subst q2'
  refine ⟨cs,e1,?_⟩
  have hset:cs.toList.set i (.slice none 0 0)=cs.toList:=by
   apply List.ext_getElem?
   intro j
   by_cases q:i=j
   ·subst q
    rw [List.getElem?_set_self (List.getElem?_eq_some_iff.1 q1).1,q1]
   ·rw [List.getElem?_set_ne q]
  have:=e2.set (j:=i) (v:=.slice none 0 0) hl rfl
  rw [hset] at this
  exact this
theorem Bex (s:St) (g:Gh) (w:World) (t:Ty):Fy s g w (.sl t []) (.slice none 0 0):=⟨none,0,rfl,Nat.le_refl _,fun i x hx=>by simp [nth] at hx⟩
theorem A8g (h:Cx n B Iq s g a w) {slot:Nat} {av:AV} (hv:AVR s g w av (a.tmps.getD slot undef)):Cx n B Iq (s.setCell slot av) g a w∧Go B Iq s g w (s.setCell slot av) g w:=by
 have hS:∀ b,Ho s g b→b < w.heap.size→Ho (s.setCell slot av) g b∧w.heap[b]? = w.heap[b]? := fun b hb _=>⟨hb,rfl⟩
 have hI:∀ id,Bo s g (s.setCell slot av) g id:=fun id=>Bo.same rfl rfl rfl
 refine ⟨h.step h.size h.defers (Nat.le_refl _) hS hI (fun i=>?_) (fun id=>.inl ⟨rfl,rfl,rfl,fun _ _=>rfl⟩) h.inj h.lt rfl,⟨Kp.refl B Iq w,hS,hI,rfl⟩⟩
 by_cases q:i=slot
 ·subst q
  right
  have:(s.setCell i av).cell i=av:=by simp [St.setCell]
  rw [this]
  exact AVR.step hS hI hv
 ·exact .inl ⟨by simp [St.setCell,Bl _ _ q],rfl⟩
theorem Auw (h:Cx n B Iq s g a w) {nid:Nat} (hf:s.res nid=.unborn) (e:TypeId) (t:Ty):
  ∃ g',Go B Iq s g w (s.setRes nid (.row e t [])) g' w∧Cx n B Iq (s.setRes nid (.row e t [])) g' a w∧Fy (s.setRes nid (.row e t [])) g' w (.row nid) (.slice none 0 0):=by
 have hS:∀ b,Ho s g b→b < w.heap.size→Ho (s.setRes nid (.row e t [])) ⟨upd g.blk nid none,upd g.hdr nid (.slice none 0 0),g.av⟩ b∧w.heap[b]? = w.heap[b]? := by
  intro b hb _
  refine ⟨⟨hb.1,fun j hj hk=>?_⟩,rfl⟩
  by_cases q:j=nid
  ·subst q; simp at hk
  ·rw [Az s _ q] at hj
   simp only [Bl _ _ q] at hk
   exact hb.2 j hj hk
 have hI:∀ j,Bo s g (s.setRes nid (.row e t [])) ⟨upd g.blk nid none,upd g.hdr nid (.slice none 0 0),g.av⟩ j:=by
  intro j
  by_cases q:j=nid
  ·subst q
   unfold Bo
   rw [hf]
   exact .inr trivial
  ·exact Bo.same (Az s _ q) (by simp [Bl _ _ q]) (by simp [Bl _ _ q])
 refine ⟨_,⟨Kp.refl B Iq w,hS,hI,rfl⟩,h.step h.size h.defers (Nat.le_refl _) hS hI (fun i=>.inl ⟨rfl,rfl⟩) (fun j=>?_) (fun i j b hi hj=>?_) (fun i b hi=>?_) rfl,?_⟩
 ·by_cases q:j=nid
  ·subst q
   right
   rw [Ay]
   refine ⟨[],⟨by simp,.inl ⟨by simp,rfl⟩⟩,A7n _ _,by simp [Value.ownBlock]⟩
  ·left
   exact ⟨Az s _ q,by simp [Bl _ _ q],by simp [Bl _ _ q],fun _ _=>rfl⟩
 ·by_cases q1:i=nid
  ·simp [q1] at hi
  ·by_cases q2:j=nid
   ·simp [q2] at hj
   ·simp only [Bl _ _ q1] at hi
    simp only [Bl _ _ q2] at hj
    exact h.inj i j b hi hj
 ·by_cases q1:i=nid
  ·simp [q1] at hi
  ·simp only [Bl _ _ q1] at hi
   exact h.lt i b hi
 ·simp only [Fy,Ay,Bu]
theorem Am7 (h:Cx n B Iq s g a w) {id:Nat} {T:TypeId} {ls:List Lf} {i:Nat} {l0 l:Lf} (hr:s.res id=.box T ls) (hn:ls[i]? = some l0) (hl:∀ u,Fy s g w l0 u→Fy s g w l u):
  Cx n B Iq (s.setRes id (.box T (ls.set i l))) g a w∧Go B Iq s g w (s.setRes id (.box T (ls.set i l))) g w:=by
 have hS:∀ b,Ho s g b→b < w.heap.size→Ho (s.setRes id (.box T (ls.set i l))) g b∧w.heap[b]? = w.heap[b]? := by
  intro b hb _
  refine ⟨⟨hb.1,fun j hj hk=>?_⟩,rfl⟩
  by_cases q:j=id
  ·subst q
   exact hb.2 j (by rw [hr]; rfl) hk
  ·rw [Az s _ q] at hj
   exact hb.2 j hj hk
 have hI:∀ j,Bo s g (s.setRes id (.box T (ls.set i l))) g j:=by
  intro j
  by_cases q:j=id
  ·subst q
   unfold Bo
   rw [hr,Ay]
   exact .inr ⟨_,_,rfl,rfl⟩
  ·exact Bo.same (Az s _ q) rfl rfl
 refine ⟨h.step h.size h.defers (Nat.le_refl _) hS hI (fun i=>.inl ⟨rfl,rfl⟩) (fun j=>?_) h.inj h.lt rfl,⟨Kp.refl B Iq w,hS,hI,rfl⟩⟩
 by_cases q:j=id
 ·subst q
  right
  rw [Ay]
  have r:=h.res j
  rw [hr] at r
  obtain ⟨b,cs,h1,h2,h3⟩:=r
  refine ⟨b,cs,h1,h2,L1.step hS hI ?_⟩
  obtain ⟨v0,q1,q2,q3⟩:=h3.get hn
  have hset:cs.toList.set i v0=cs.toList:=by
   apply List.ext_getElem?
   intro k
   by_cases q:i=k
   ·subst q
    rw [List.getElem?_set_self (List.getElem?_eq_some_iff.1 q1).1,q1]
   ·rw [List.getElem?_set_ne q]
  have:=h3.set (j:=i) (v:=v0) (hl v0 q2) q3
  rw [hset] at this
  exact this
 ·exact .inl ⟨Az s _ q,rfl,rfl,fun _ _=>rfl⟩
theorem A8h (h:Cx n B Iq s g a w) {id:Nat} {T:TypeId} {ls:List Lf} {i:Nat} {l:Lf} (hr:s.res id=.box T ls) (hn:ls[i]? = some (.c (.slice none 0 0))) (hl:Fy s g w l (.slice none 0 0)):
  Cx n B Iq (s.setRes id (.box T (ls.set i l))) g a w∧Go B Iq s g w (s.setRes id (.box T (ls.set i l))) g w:=
 Am7 h hr hn fun u hu=>by
  have hu:u=.slice none 0 0:=hu
  subst hu
  exact hl
theorem Bu4 (h:Cx n B Iq s g a w) {nid:Nat} {f:Fx} {s':St} {nid':Nat} (e:Bjl s nid f=some (s',nid')):∃ g',Cx n B Iq s' g' a w∧Go B Iq s g w s' g' w:=by
 have fz:∀ ls,some (s.frz ls,nid)=some (s',nid')→∃ g',Cx n B Iq s' g' a w∧Go B Iq s g w s' g' w:=fun ls q=>by
  cases q
  obtain ⟨g',k1,k2,_⟩:=Iv (ls:=ls) h
  exact ⟨g',k1,k2⟩
 have stay:some (s,nid)=some (s',nid')→∃ g',Cx n B Iq s' g' a w∧Go B Iq s g w s' g' w:=fun q=>by cases q; exact ⟨g,h,Go.refl B Iq s g w⟩
 cases f with
 | sl slot i t=>
  simp only [Bjl] at e
  split at e
  ·rename_i v hv
   split at e
   ·rename_i hn
    cases e
    have k:=h.cell slot
    rw [hv] at k
    exact ⟨g,A8g h (av:=.vl (Bev v i (.sl t []))) (Bow (w:=w) k (Aq6 hn) (Bex s g w t))⟩
   ·exact fz _ e
  ·exact stay e
 | row slot i e0 t=>
  simp only [Bjl] at e
  split at e
  ·rename_i v hv
   split at e
   ·rename_i hn
    split at e
    ·rename_i hf
     cases e
     obtain ⟨g',k1,k2,k3⟩:=Auw h hf e0 t
     have k:=k2.cell slot
     have hc:(s.setRes nid (.row e0 t [])).cell slot=.vl v:=hv
     rw [hc] at k
     obtain ⟨r1,r2⟩:=A8g k2 (av:=.vl (Bev v i (.row nid))) (Bow (w:=w) k (Aq6 hn) k3)
     exact ⟨g',r1,k1.trans r2⟩
    ·cases e
   ·exact stay e
  ·exact stay e
 | boxSl slot i t=>
  simp only [Bjl] at e
  split at e
  ·rename_i id hv
   split at e
   ·rename_i T ls hr
    split at e
    ·rename_i hn
     cases e
     exact ⟨g,A8h h hr (Aq6 hn) (Bex s g w t)⟩
    ·exact fz _ e
   ·exact stay e
  ·exact stay e
 | boxRow slot i e0 t=>
  simp only [Bjl] at e
  split at e
  ·rename_i id hv
   split at e
   ·rename_i T ls hr
    split at e
    ·rename_i hn
     split at e
     ·rename_i hf
      cases e
      obtain ⟨g',k1,k2,k3⟩:=Auw h hf e0 t
      have hne:id≠nid:=by rintro rfl; rw [hf] at hr; cases hr
      have hr':(s.setRes nid (.row e0 t [])).res id=.box T ls:=by rw [Az s _ hne]; exact hr
      obtain ⟨r1,r2⟩:=A8h k2 hr' (Aq6 hn) k3
      exact ⟨g',r1,k1.trans r2⟩
     ·cases e
    ·exact stay e
   ·exact stay e
  ·exact stay e
 | self slot i=>
  simp only [Bjl] at e
  split at e
  ·rename_i id hv
   split at e
   ·rename_i T ls hr
    split at e
    ·rename_i hn
     cases e
     unfold Bsq at hn
     split at hn
     ·rename_i hg
      refine ⟨g,Am7 h hr hg fun u hu=>?_⟩
      simp only [Fy] at hu ⊢
      rw [hr]
      exact .inl hu
     ·rename_i j hg
      have hj:=Nat.eq_of_beq_eq_true hn
      subst hj
      refine ⟨g,Am7 h hr hg fun u hu=>?_⟩
      simp only [Fy] at hu ⊢
      rw [hr] at hu ⊢
      exact .inr hu
     ·cases hn
    ·exact stay e
   ·exact stay e
  ·exact stay e
 | last slot e1 t=>
  simp only [Bjl] at e
  split at e
  ·rename_i id hv
   split at e
   ·rename_i e0 tt xs hr
    split at e
    ·rename_i ys _ _ hys hf hf1
     cases e
     unfold Byj at hys
     split at hys<;>cases hys
     rename_i htt
     subst htt
     obtain ⟨g1,k1,k2,k3⟩:=Auw h hf1 e1 t
     have hid1:id≠nid + 1:=fun q=>by rw [q,hf1] at hr; cases hr
     have hid0:id≠nid:=fun q=>by rw [q,hf] at hr; cases hr
     have hr1:(s.setRes (nid + 1) (.row e1 t [])).res id=.row e0 (.sl t) xs:=(Az s _ hid1).trans hr
     have hf0:(s.setRes (nid + 1) (.row e1 t [])).res nid=.unborn:=(Az s _ (by omega)).trans hf
     have r:=k2.res id
     rw [hr1] at r
     obtain ⟨cs,q1,q2,q3⟩:=r
     have hc:=k2.cell slot
     have hv1:(s.setRes (nid + 1) (.row e1 t [])).cell slot=.vl (.lf (.row id)):=hv
     rw [hv1] at hc
     obtain ⟨hc1,hc2⟩:=hc
     simp only [Fy,hr1] at hc1
     have hcl:cs.length=List.length xs:=by simpa [Ty.sz] using q1.1
     obtain ⟨m1,m2,m3,m4⟩:=k2.growR (o:=some id) hf0 (v:=g1.hdr id) (v':=g1.hdr id) (w':=w) (r:=.last e0 t xs false (nid + 1)) (fun j q=>by
      cases q
      exact ⟨by rw [hr1]; rfl,rfl,q3⟩) (fun q=>by cases q) (World.grownBy.refl w _) (.inl rfl) (fun b hb=>(k2.lt id b (q3.trans hb)).1) (fun hS _=>by
      refine ⟨cs,?_,?_,?_,fun u hq=>by cases hq⟩
      ·have e1:(g1.mv (some id) nid (g1.hdr id)).hdr nid=g1.hdr id:=by simp [Gh.mv]
       rw [e1]
       exact q1
      ·have e2:cs.take (@List.length (List t.D) xs)=cs:=List.take_of_length_le (Nat.le_of_eq hcl)
       have e3:=q2.keep hS
       rw [← e2] at e3
       exact e3
      ·simp [Gh.mv])
     have hcell:AVR ((I1 (s.setRes (nid + 1) (.row e1 t [])) (some id)).setRes nid (.last e0 t xs false (nid + 1))) (g1.mv (some id) nid (g1.hdr id)) w (.vl (.lf (.row nid))) (a.tmps.getD slot undef):=by
      refine ⟨?_,hc2⟩
      simp only [Fy,Ay]
      rw [hc1]
      simp [Gh.mv]
     obtain ⟨c1,c2⟩:=A8g m3 (slot:=slot) hcell
     exact ⟨_,c1,k1.trans (Go.trans ⟨m4,m1,m2,rfl⟩ c2)⟩
    ·cases e
   ·exact stay e
  ·exact stay e
theorem Bjm:∀ {fx:List Fx} {s:St} {g:Gh} {nid:Nat} {s':St} {nid':Nat},Cx n B Iq s g a w→Bov s nid fx=some (s',nid')→∃ g',Cx n B Iq s' g' a w∧Go B Iq s g w s' g' w
 | [],s,g,nid,s',nid',h,e=>by cases e; exact ⟨g,h,Go.refl B Iq s g w⟩
 | f::r,s,g,nid,s',nid',h,e=>by
  simp only [Bov] at e
  obtain ⟨p,e1,e2⟩:=By e
  obtain ⟨g1,k1,k2⟩:=Bu4 h (s':=p.1) (nid':=p.2) e1
  obtain ⟨g2,k3,k4⟩:=Bjm k1 e2
  exact ⟨g2,k3,k2.trans k4⟩
theorem Bu5 (h:Cx n B Iq s g a w) {np nid:Nat} {p:C2} {d:p.D} (e:p.mtch np s nid=some d):
  ∃ s1 g1 g',Go B Iq s g w s1 g1 w∧Cx n B Iq (p.st d) g' a w∧g'.av=g1.av∧∀ id,id < np→((p.st d).res id=.unborn→s1.res id=.unborn)∧(∀ T ls,(p.st d).res id=.box T ls→(∃ T' ls',s1.res id=.box T' ls')∧g'.blk id=g1.blk id)∧(∀ e,∀ t:Ty,∀ xs:List t.D,(p.st d).res id=.row e t xs→(∃ e',∃ xs':List t.D,s1.res id=.row e' t xs')∧g'.blk id=g1.blk id∧g'.hdr id=g1.hdr id):=by
 unfold C2.mtch at e
 obtain ⟨q,e1,e⟩:=By e
 obtain ⟨l,e2,e⟩:=By e
 obtain ⟨y,e3,e4⟩:=Bet e
 obtain ⟨z,e5,e6⟩:=Beu e3
 obtain ⟨g1,k1,k2⟩:=Bjm h (s':=q.1) (nid':=q.2) e1
 have hst:p.st d=Bji l.1 l.2:=by
  unfold C2.st
  have e4':Adl p.cs (X:=RsD p.rs Unit) d=(l.1,y):=e4
  have a2:(Adl p.cs (X:=RsD p.rs Unit) d).2=y:=congrArg Prod.snd e4'
  have a3:Akl p.rs (Adl p.cs (X:=RsD p.rs Unit) d).2=(l.2,z):=(congrArg (Akl p.rs) a2).trans e6
  exact congr (congrArg Bji (congrArg Prod.fst e4')) (congrArg Prod.fst a3)
 have hc:canon np (A6q p.cs) q.1=some (Bji l.1 l.2,(A6o q.1 np (A6q p.cs)).length):=by
  unfold Bsr at e2
  unfold canon
  dsimp only at e2 ⊢
  split at e2
  ·rename_i hq
   rw [if_pos hq]
   cases e2
   rfl
  ·cases e2
 obtain ⟨g',r1,r2,r3⟩:=Bsl k1 hc
 rw [hst]
 exact ⟨q.1,g1,g',k2,r1,r2,r3⟩
end
end
section
theorem Bjn (p:prD):∀ l:List prD,(A4k p l).length=l.length + 1
 | []=>rfl
 | q::r=>by
  simp only [A4k]
  cases ltK q p with
  | true=>simp only [cond_true,List.length_cons,Bjn p r]
  | false=>rfl
theorem Agn:∀ l:List prD,(V4 l).length=l.length
 | []=>rfl
 | p::r=>by show (A4k p (V4 r)).length=r.length + 1; rw [Bjn,Agn r]
structure Bey where
 pre:List Oper
 o2:Oper
 o3:Oper
 o4:Oper
 V:TypeId
 z:Operand
 d2:Nat
 d3:Nat
 fs:FuncId
def A6r (o2 o3 o4:Oper):Option (TypeId×Operand×Nat×Nat×FuncId):=match o2.op,o2.dst,o2.guard,o3.dst,o3.guard,V3 o4,o4.guard with
 | .makeInterface V z,some d2,none,some d3,none,some (fs,[.tmp p,.tmp q]),none=>if p=d2 then (if q=d3 then (if d2=d3 then none else some (V,z,d2,d3,fs)) else none) else none
 | _,_,_,_,_,_,_=>none
def Aac:List Oper→Option Bey
 | [o0,o1,o2,o3,o4]=>match A6r o2 o3 o4 with
  | some (V,z,d2,d3,fs)=>some ⟨[o0,o1],o2,o3,o4,V,z,d2,d3,fs⟩
  | none=>none
 | _=>none
def Bss:AV→Option (FuncId×Nat)
 | .fn fc [.ptr b 0]=>some (fc,b)
 | _=>none
def A8i (BT:TypeId):Ze→Option Nat
 | .box T [.row r]=>if T=BT then some r else none
 | _=>none
def Bgz:Option Lf→Option Nat
 | some (.row r)=>some r
 | _=>none
def Bwv (P:Program) (T:Tb) (n:Nat) (s:St) (nid:Nat) (q:Bey):Option (List Bool×St):=match T.srt with
 | some (fs,fc,BT,U,e)=>match Bgz (s.leaf q.z) with
  | some r=>match Aao P T (s.put n q.o2.dst .dead) nid q.o3 with
   | some (av,s3)=>match Bss av with
    | some (fc',b)=>match A8i BT (s3.res b),Bjj e prT (s3.res r) with
     | some r',some xs=>if Beg P q.V=true then (if fs=q.fs then (if fc'=fc then (if q.V=U then (if r'=r then (if q.d2 < n then (if q.d3 < n then some ([G0 xs,decide (xs.length≤1000)],((s3.put n q.o3.dst av).setRes r (.row e prT (V4 xs))).put n q.o4.dst (.tp [])) else none) else none) else none) else none) else none) else none) else none
     | _,_=>none
    | none=>none
   | none=>none
  | none=>none
 | none=>none
theorem Bml {e:TypeId} {t:Ty} {v:Ze} {xs:List t.D} (h:Bjj e t v=some xs):v=.row e t xs:=by
 unfold Bjj at h
 split at h
 ·split at h
  ·rename_i he
   split at h
   ·rename_i ht
    cases h
    subst he ht
    rfl
   ·cases h
  ·cases h
 ·cases h
section
variable {P:Program} {n B:Nat} {Iq:List Nat} {s:St} {g:Gh} {a:Act} {w:World}
theorem Bg0 {o2 o3 o4:Oper} {V:TypeId} {z:Operand} {d2 d3:Nat} {fs:FuncId} (h:A6r o2 o3 o4=some (V,z,d2,d3,fs)):
  o2.op=.makeInterface V z∧o2.dst=some d2∧o2.guard=none∧o3.dst=some d3∧o3.guard=none∧V3 o4=some (fs,[.tmp d2,.tmp d3])∧o4.guard=none∧d2≠d3:=by
 unfold A6r at h
 split at h
 ·rename_i h1 h2 h3 h4 h5 h6 h7
  split at h
  ·rename_i e1
   split at h
   ·rename_i e2
    split at h
    ·cases h
    ·rename_i e3
     cases h
     subst e1 e2
     exact ⟨h1,h2,h3,h4,h5,h6,h7,e3⟩
   ·cases h
  ·cases h
 ·cases h
theorem Box {a:Act} {d:Nat} {v:Value} (h:d < a.tmps.size):(a.put (some d) v).tmps.getD d undef=v:=by
 simp [Act.put,Array.getD_eq_getD_getElem?,h]
theorem Bmm {a:Act} {d i:Nat} {v:Value} (h:i≠d):(a.put (some d) v).tmps.getD i undef=a.tmps.getD i undef:=by
 simp [Act.put,Array.getD_eq_getD_getElem?,Array.getElem?_setIfInBounds,h.symm]
theorem Bqg (h:Cx n B Iq s g a w) {fs fc:FuncId} {BT U e:TypeId} (hok:Bgr P fs fc BT U e) {b r:Nat} {xs:List prD} {bb:Nat} (hb:g.blk b=some bb) (hbox:s.res b=.box BT [.row r]) (hrow:s.res r=.row e prT xs)
  (hnd:G0 xs=true) (hlen:xs.length≤1000):Aq4 P fs #[.iface U (g.hdr r),.func (.func fc) #[] #[.pointer (some ⟨bb,0,none⟩)]] n B Iq s g a w (.tp []) (s.setRes r (.row e prT (V4 xs))):=by
 have kb:=h.res b
 rw [hbox] at kb
 obtain ⟨bb',ccs,hb',hh,hL⟩:=kb
 obtain rfl:bb=bb':=Option.some.inj (hb.symm.trans hb')
 have kr:=h.res r
 rw [hrow] at kr
 obtain ⟨cs,o1,o2,o3⟩:=kr
 obtain ⟨v0,hcs⟩:∃ v0,ccs=#[v0]:=by
  have:=hL.length
  match ccs,this with
  | ⟨[x]⟩,_=>exact ⟨x,rfl⟩
 subst hcs
 have hv0:v0=g.hdr r:=by
  have:=hL.1.1
  simp only [Fy,hrow] at this
  exact this
 subst hv0
 have hbr:b≠r:=fun q=>by rw [q,hrow] at hbox; cases hbox
 have hne:(g.hdr r).ownBlock≠some bb:=by
  rw [← o3]
  intro q
  exact hbr (h.inj b r bb hb q)
 have hlive:(s.res r).live=true:=by rw [hrow]; rfl
 refine Calls.mono (hok w bb (g.hdr r) xs cs hnd hlen (h.lt b bb hb).1 hh o1 (o2.imp fun _ _ _=>trivial) hne) fun en w'=>?_
 rintro ⟨rfl,hk,cs',p1,p2⟩
 have hmem:∀ c,c∈(g.hdr r).ownBlock.toList→g.blk r=some c:=fun c hc=>by
  simp only [Option.mem_toList] at hc
  rw [o3]; exact hc
 have hS:∀ c,Ho s g c→c < w.heap.size→Ho (s.setRes r (.row e prT (V4 xs))) g c∧w'.heap[c]? = w.heap[c]? := by
  intro c hc hc'
  refine ⟨⟨hc.1,fun j hj=>?_⟩,hk.block c hc' (fun q=>hc.2 r hlive (hmem c q))⟩
  by_cases q:j=r
  ·rw [q]; exact hc.2 r hlive
  ·rw [Az s _ q] at hj; exact hc.2 j hj
 have hI:∀ j,Bo s g (s.setRes r (.row e prT (V4 xs))) g j:=by
  intro j
  by_cases q:j=r
  ·subst q
   unfold Bo
   rw [hrow]
   exact .inr (.inl ⟨_,_,Ay _ _ _,Agn xs,rfl,rfl⟩)
  ·exact Bo.same (Az s _ q) rfl rfl
 refine ⟨.tuple #[],g,rfl,⟨hk.toKp h.base (fun c hc=>(h.lt r c (hmem c hc)).2.1),hS,hI,rfl⟩,?_,⟨#[],rfl,rfl,fun j v hv=>by simp at hv⟩⟩
 refine h.step h.size h.defers hk.size hS hI (fun i=>.inl ⟨rfl,rfl⟩) (fun j=>?_) h.inj (fun i c hi=>⟨Nat.lt_of_lt_of_le (h.lt i c hi).1 hk.size,(h.lt i c hi).2⟩) rfl
 by_cases q:j=r
 ·subst q
  right
  rw [Ay]
  exact ⟨cs',(show w'.ownsRow 0 e 2 (g.hdr j) (List.length (α:=prD) (V4 xs)) cs' by rw [Agn]; exact p1),p2 _,o3⟩
 ·exact .inl ⟨Az s _ q,rfl,rfl,fun c hc=>hk.block c (h.lt j c hc).1 (fun q2=>q (h.inj j r c hc (hmem c q2)))⟩
end
end
end Go.Proofs.YtfkefgbihlfjmaaGreat.R
end
