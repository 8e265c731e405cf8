/- One operation is the machine's. No condition. -/
import Derived.Test.YtfkefgbihlfjmaaGreatRStepC
namespace Go.Proofs.YtfkefgbihlfjmaaGreat.R
open Go Go.RowKit
set_option linter.unusedVariables false
set_option linter.unusedSimpArgs false
structure SD where
 sg:Sig
 den:Tf sg.ps→Option (Tf sg.rs×BxD sg.ps)
def J6 (P : Program) (f : FuncId) : Prop := ∃ fn, P.funcs[f]? = some fn ∧ (fn.name == "runtime.NumGoroutine") = false ∧ fn.body.isNone = false
def Ag2:Operand→Bool
 | .const (.slice none 0 0)=>true
 | _=>false
def Y2 (P:Program) (s:St) (nid:Nat) (T:TypeId) (x:Operand):Option (AV×St):=
 if Ag2 x then Asu P s nid T else some (s.op x,s)
def Aq3 (s:St) (x y:Operand):Option (Bool×Bool):=match s.conc x,s.conc y with
 | some (.bool p),some (.bool q)=>some (p,q)
 | _,_=>none
def Y3 (s:St) (c x y:Operand):Option AV:=match s.conc c with
 | some (.bool t)=>match Aq3 s x y with
  | some (p,q)=>some (.vl (.lf (.c (.bool (bif t then p else q)))))
  | none=>some (bif t then s.op x else s.op y)
 | _=>none
def Ae7 (s:St) (x:Operand) (i:Nat):Option AV:=match s.op x with
 | .tp vs=>match vs[i]? with
  | some v=>some (.vl v)
  | none=>none
 | _=>none
def Aai (s:St) (x:Operand):Option AV:=match s.leaf x with
 | some (.ptr id off)=>match s.res id with
  | .box _ _=>some (.vl (.lf (.ptr id off)))
  | _=>none
 | some (.ep t xs i off)=>some (.vl (.lf (.ep t xs i off)))
 | some (.rp id i off)=>match s.res id with
  | .row _ _ _=>some (.vl (.lf (.rp id i off)))
  | _=>none
 | _=>none
abbrev Cd:=Option (List Bool×AV×St)
def lfC (s:St) (x:Option (List Bool×Lf)):Cd:=match x with
 | some (cs,l)=>some (cs,.vl (.lf l),s)
 | none=>none
def lfS (x:Option (List Bool×Lf×St)):Cd:=match x with
 | some (cs,l,s)=>some (cs,.vl (.lf l),s)
 | none=>none
def lf0 (x:Option (Lf×St)):Cd:=match x with
 | some (l,s)=>some ([],.vl (.lf l),s)
 | none=>none
def vC (s:St) (x:Option (List Bool×Value)):Cd:=match x with
 | some (cs,v)=>some (cs,.vl (.lf (.c v)),s)
 | none=>none
def v0 (s:St) (x:Option Value):Cd:=match x with
 | some v=>some ([],.vl (.lf (.c v)),s)
 | none=>none
def vl0 (s:St) (x:Option Vl):Cd:=match x with
 | some v=>some ([],.vl v,s)
 | none=>none
def av0 (s:St) (x:Option AV):Cd:=match x with
 | some v=>some ([],v,s)
 | none=>none
def avS (x:Option (AV×St)):Cd:=match x with
 | some (v,s)=>some ([],v,s)
 | none=>none
def stC (x:Option (List Bool×St)):Cd:=match x with
 | some (cs,s)=>some (cs,.dead,s)
 | none=>none
def A37 (s:St) (x:Operand):Bool:=match s.value x with
 | some (.ag _)=>true
 | _=>false
def A4u (s:St) (x:Operand):Bool:=match s.conc x with
 | some (.string _)=>true
 | _=>false
def Ao4 (P:Program) (T:TypeId):Bool:=match P.underlying T with
 | some (.slice _)=>true
 | _=>false
def A0h (P:Program) (T:TypeId):Bool:=match P.underlying T with
 | some .string=>true
 | _=>false
def Ajf (s:St):List Operand→Option (List Lf)
 | []=>some []
 | x::r=>(s.leaf x).bind fun l=>(Ajf s r).bind fun ls=>some (l::ls)
def Akl (s:St) (f:Fn) (first captured:List Operand):Option AV:=match f,first with
 | .func f,[]=>(Ajf s captured).map (AV.fn f)
 | _,_=>none
def U7 (P:Program) (s:St) (nid:Nat) (o:Oper):Cd:=match o.op with
 | .move x=>avS (Y2 P s nid o.type x)
 | .assign x=>avS (Y2 P s nid o.type x)
 | .pick c x y=>av0 s (Y3 s c x y)
 | .alloc T=>lf0 (Aqk P s nid T)
 | .box T x=>match s.value x with
  | some v=>lf0 (Az3 s nid T v)
  | none=>none
 | .build T parts=>vl0 s (Aql P s T parts)
 | .buildSlice T len parts=>if A0f P T len then lf0 (Akg P s nid T parts.toList) else lf0 (Wi P s nid T len parts)
 | .load T x=>if Acf s x then lfC s (Aqu P s T x) else vl0 s (Aj0 P s T x)
 | .store T x y=>if Acf s x then stC (Acg P s T x y) else stC (Y1 P s T x y)
 | .nilCheck x=>av0 s (Aai s x)
 | .binOp op T x y U=>match op with
  | .add=>if A4u s x then vC s (Ake s .add x y) else v0 s (Mj P s o)
  | .quo=>vC s (Asr s .quo x y)
  | .rem=>vC s (Asr s .rem x y)
  | .shl=>vC s (Asr s .shl x y)
  | .eql=>if A37 s x then v0 s (Aqt P s .eql T x y) else v0 s (Mj P s o)
  | .neq=>if A37 s x then v0 s (Aqt P s .neq T x y) else v0 s (Mj P s o)
  | _=>v0 s (Mj P s o)
 | .unOp _ _ _=>v0 s (Mj P s o)
 | .convert T U x=>if Ao4 P T then v0 s (Aab P s T U x) else if Ao4 P U then lfS (Aaa P s nid T U x) else v0 s (Mj P s o)
 | .makeSlice T x y=>lfS (Wp P s nid T x y)
 | .slice T x lo hi mx=>if A0h P T then vC s (Aah P s T x lo hi mx) else (match mx with
  | none=>lfS (Akk P s T x lo hi)
  | some _=>none)
 | .fieldAddr T x f=>lf0 ((Yv P s T x f).map fun l=>(l,s))
 | .field T x f=>vl0 s (Aqj P s T x f)
 | .indexAddr T x y=>if i5 s x then lfC s (U4 P s T x y) else lfC s (La P s T x y)
 | .index T x y=>vC s (Aag P s T x y)
 | .extract x i=>av0 s (Ae7 s x i)
 | .makeMap T h=>(match h with
  | none=>lf0 (Ae1 P s nid T)
  | some _=>none)
 | .mapUpdate T m k v=>stC ((Aki P s T m k v).map fun s'=>([],s'))
 | .lookup T m k ok=>if ok then none else v0 s (Ae2 P s T m k)
 | .range T m=>lf0 (Aqx P s nid T m)
 | .entry it=>av0 s (Aqy s it)
 | .makeFunc f first captured=>av0 s (Akl s f first.toList captured.toList)
 | .call c=>match c.callee with
  | .builtin .len=>(match c.args.toList,c.argTypes.toList with
   | [x],[T]=>if Ao4 P T then (if i5 s x then v0 s (Aey P s T x) else v0 s (Aot P s T x)) else if A4t P T then v0 s (U6 P s T x) else v0 s (Mj P s o)
   | _,_=>none)
  | .builtin .append=>(match c.args.toList,c.argTypes.toList with
   | [x,y],[T,U]=>if A0h P U then lfS (Wq P s nid T U x y) else if U=T then (if i5 s x then lfS (Aez P s nid T x y) else lfS (Ae3 P s nid T x y)) else none
   | _,_=>none)
  | .builtin .delete=>(match c.args.toList,c.argTypes.toList with
   | [x,y],[T,U]=>stC ((Akj P s T U x y).map fun s'=>([],s'))
   | _,_=>none)
  | .builtin .min=>v0 s (Mj P s o)
  | .builtin .max=>v0 s (Mj P s o)
  | _=>none
 | _=>none
section
variable {P:Program} {n B:Nat} {Iq:List Nat} {s:St} {g:Gh} {a:Act} {w:World}
def Nf (P:Program) (n B:Nat) (Iq:List Nat) (s:St) (g:Gh) (a:Act) (w:World) (o:Oper) (av:AV) (s':St):Prop:=
 ∀ (K:Act→World→Prop) (Q:Exit→Act→World→Prop),(∀ v g' w',Go B Iq s g w s' g' w'→B8 n B Iq s' g' a w'→Uk s' g' w' av v→K (a.put o.dst v) w')→o.wp P a w K Q
theorem Nf.val {o:Oper} {av:AV} {s':St} {v:Value} {w':World} {g':Gh} (hr:(execOp a.eval o).run P w=.ok (.value v) w') (h1:Go B Iq s g w s' g' w') (h2:B8 n B Iq s' g' a w') (h3:Uk s' g' w' av v):Nf P n B Iq s g a w o av s':=by
 intro K Q hK
 unfold Oper.wp
 rw [hr,Oper.upon_value]
 exact hK v g' w' h1 h2 h3
theorem Nf.skip {o:Oper} {s':St} {w':World} {g':Gh} (hr:(execOp a.eval o).run P w=.ok .skip w') (h1:Go B Iq s g w s' g' w') (h2:B8 n B Iq s' g' a w'):Nf P n B Iq s g a w o .dead s':=by
 intro K Q hK
 unfold Oper.wp
 rw [hr,Oper.upon_skip]
 exact hK _ g' w' h1 h2 trivial
theorem Nf.here {o:Oper} {av:AV} {v:Value} (h:B8 n B Iq s g a w) (hr:(execOp a.eval o).run P w=.ok (.value v) w) (h3:Uk s g w av v):Nf P n B Iq s g a w o av s:=
 Nf.val hr (Go.refl B Iq s g w) h h3
theorem Ao5 (h:B8 n B Iq s g a w) {nid:Nat} {T:TypeId} {x:Operand} {av:AV} {s':St} (e:Y2 P s nid T x=some (av,s')):
  ∃ g',Go B Iq s g w s' g' w∧B8 n B Iq s' g' a w∧Uk s' g' w av (a.eval x):=by
 unfold Y2 at e
 split at e
 ·rename_i hn
  unfold Ag2 at hn
  split at hn
  ·exact Asw h e
  ·cases hn
 ·cases e
  exact ⟨g,Go.refl B Iq s g w,h,Au9 h x⟩
theorem Ayv (h:B8 n B Iq s g a w) {c x y:Operand} {av:AV} (e:Y3 s c x y=some av):
  ∃ t:Bool,a.eval c=.bool t∧Uk s g w av (bif t then a.eval x else a.eval y):=by
 unfold Y3 at e
 split at e
 ·rename_i t hc
  refine ⟨t,(Db h hc).1,?_⟩
  split at e
  ·rename_i p q hb
   cases e
   unfold Aq3 at hb
   split at hb<;>cases hb
   rename_i hx hy
   rw [(Db h hx).1,(Db h hy).1]
   cases t
   ·exact ⟨rfl,rfl⟩
   ·exact ⟨rfl,rfl⟩
  ·cases e
   cases t
   ·exact Au9 h y
   ·exact Au9 h x
 ·cases e
theorem Aq4 (h:B8 n B Iq s g a w) {x:Operand} {i:Nat} {av:AV} (e:Ae7 s x i=some av):
  ∃ v,(Instr.extract (a.eval x) i).run P w=.ok v w∧Uk s g w av v:=by
 unfold Ae7 at e
 split at e
 ·rename_i vs hx
  split at e<;>cases e
  rename_i v hv
  have k:=Au9 h x
  rw [hx] at k
  obtain ⟨us,hu,hsz,hk⟩:=k
  obtain ⟨u,e1,e2⟩:=hk i v hv
  refine ⟨u,?_,e2⟩
  rw [hu]
  simp [Instr.extract,e1]
 ·cases e
theorem Ano (h:B8 n B Iq s g a w) {x:Operand} {av:AV} (e:Aai s x=some av):
  (∃ ad,a.eval x=.pointer (some ad))∧Uk s g w av (a.eval x):=by
 unfold Aai at e
 split at e
 ·rename_i id off hx
  obtain ⟨hl,h1⟩:=Dc h hx
  split at e<;>cases e
  rename_i T ls hr
  refine ⟨?_,hl,h1⟩
  simp only [Dq,hr] at hl
  obtain ⟨b,_,hu⟩:=hl
  exact ⟨_,hu⟩
 ·rename_i t xs i off hx
  obtain ⟨hl,h1⟩:=Dc h hx
  cases e
  refine ⟨?_,hl,h1⟩
  obtain ⟨ad,cs,hu,_⟩:=hl
  exact ⟨_,hu⟩
 ·rename_i id i off hx
  obtain ⟨hl,h1⟩:=Dc h hx
  split at e<;>cases e
  rename_i T t xs hr
  refine ⟨?_,hl,h1⟩
  simp only [Dq,hr] at hl
  obtain ⟨_,b,_,hu⟩:=hl
  exact ⟨_,hu⟩
 ·cases e
theorem Ao6 (h:B8 n B Iq s g a w):∀ {xs:List Operand} {ls:List Lf},Ajf s xs=some ls→G7 s g w ls (xs.map a.eval)
 | [],ls,e=>by cases e; trivial
 | x::r,ls,e=>by
  simp only [Ajf] at e
  obtain ⟨l,e1,e⟩:=Option.bind_eq_some_iff.1 e
  obtain ⟨ls',e2,e⟩:=Option.bind_eq_some_iff.1 e
  cases e
  exact ⟨Dc h e1,Ao6 h e2⟩
theorem Ajg {x:Option (List Bool×Lf)} {r:AV×St} (e:Ml (lfC s x)=some r):∃ l,Ml x=some l∧r=(.vl (.lf l),s):=by
 obtain ⟨cs,e1,e2⟩:=Co e
 unfold lfC at e1
 split at e1<;>cases e1
 exact ⟨_,by simp [Ml,e2],rfl⟩
theorem i6 {x:Option (List Bool×Lf×St)} {r:AV×St} (e:Ml (lfS x)=some r):∃ l s',Ml x=some (l,s')∧r=(.vl (.lf l),s'):=by
 obtain ⟨cs,e1,e2⟩:=Co e
 unfold lfS at e1
 split at e1<;>cases e1
 exact ⟨_,_,by simp [Ml,e2],rfl⟩
theorem Acj {x:Option (List Bool×St)} {r:AV×St} (e:Ml (stC x)=some r):∃ s',Ml x=some s'∧r=(.dead,s'):=by
 obtain ⟨cs,e1,e2⟩:=Co e
 unfold stC at e1
 split at e1<;>cases e1
 exact ⟨_,by simp [Ml,e2],rfl⟩
theorem Aaj {x:Option (List Bool×Value)} {r:AV×St} (e:Ml (vC s x)=some r):∃ v,Ml x=some v∧r=(.vl (.lf (.c v)),s):=by
 obtain ⟨cs,e1,e2⟩:=Co e
 unfold vC at e1
 split at e1<;>cases e1
 exact ⟨_,by simp [Ml,e2],rfl⟩
theorem Tg {x:Option (Lf×St)} {r:AV×St} (e:Ml (lf0 x)=some r):∃ l s',x=some (l,s')∧r=(.vl (.lf l),s'):=by
 obtain ⟨cs,e1,e2⟩:=Co e
 unfold lf0 at e1
 split at e1<;>cases e1
 exact ⟨_,_,rfl,rfl⟩
theorem Ws {x:Option Value} {r:AV×St} (e:Ml (v0 s x)=some r):∃ v,x=some v∧r=(.vl (.lf (.c v)),s):=by
 obtain ⟨cs,e1,e2⟩:=Co e
 unfold v0 at e1
 split at e1<;>cases e1
 exact ⟨_,rfl,rfl⟩
theorem Ajh {x:Option Vl} {r:AV×St} (e:Ml (vl0 s x)=some r):∃ v,x=some v∧r=(.vl v,s):=by
 obtain ⟨cs,e1,e2⟩:=Co e
 unfold vl0 at e1
 split at e1<;>cases e1
 exact ⟨_,rfl,rfl⟩
theorem i7 {x:Option AV} {r:AV×St} (e:Ml (av0 s x)=some r):∃ v,x=some v∧r=(v,s):=by
 obtain ⟨cs,e1,e2⟩:=Co e
 unfold av0 at e1
 split at e1<;>cases e1
 exact ⟨_,rfl,rfl⟩
theorem Aji {x:Option (AV×St)} {r:AV×St} (e:Ml (avS x)=some r):x=some r:=by
 obtain ⟨cs,e1,e2⟩:=Co e
 unfold avS at e1
 split at e1<;>cases e1
 rfl
theorem Aw6 {x:Option St} {s':St} (e:Ml (x.map fun s'=>(([]:List Bool),s'))=some s'):x=some s':=by
 cases x with
 | none=>cases e
 | some y=>exact e
theorem Ng {v:Value} (h1:v.oneCell'=true):Uk s g w (.vl (.lf (.c v))) v:=⟨rfl,h1⟩
theorem As4 (h:B8 n B Iq s g a w) {nid:Nat} {o:Oper} {av:AV} {s':St} (e:Ml (U7 P s nid o)=some (av,s')):Nf P n B Iq s g a w o av s':=by
 obtain ⟨dst,op,type,pos,after,guard⟩:=o
 have viaConc:∀ {op:Op},(∀ cs b,op≠.select cs b)→Ml (v0 s (Mj P s ⟨dst,op,type,pos,after,guard⟩))=some (av,s')→Nf P n B Iq s g a w ⟨dst,op,type,pos,after,guard⟩ av s':=by
  intro op hs e
  obtain ⟨v,e1,e2⟩:=Ws e
  cases e2
  obtain ⟨k1,k2⟩:=Ayo h hs e1
  exact Nf.here h k1 (Ng k2)
 cases op<;>simp only [U7] at e<;>first | (cases e; done) | skip
 case move x=>
  obtain ⟨g',k1,k2,k3⟩:=Ao5 h (Aji e)
  exact Nf.val (v:=a.eval x) (by simp [execOp]) k1 k2 k3
 case assign x=>
  obtain ⟨g',k1,k2,k3⟩:=Ao5 h (Aji e)
  exact Nf.val (v:=a.eval x) (by simp [execOp]) k1 k2 k3
 case pick c x y=>
  obtain ⟨v,e1,e2⟩:=i7 e
  cases e2
  obtain ⟨t,k1,k2⟩:=Ayv h e1
  refine Nf.here h (v:=bif t then a.eval x else a.eval y) ?_ k2
  simp only [execOp,k1]
  cases t<;>simp [asBool]
 case alloc T=>
  obtain ⟨l,s1,e1,e2⟩:=Tg e
  cases e2
  obtain ⟨x,w',g',k1,k2,k3,k4,k5⟩:=Avb h e1
  exact Nf.val (v:=x) (by simp [execOp,k1]) k2 k3 ⟨k4,k5⟩
 case box T x=>
  split at e
  ·rename_i v hv
   obtain ⟨l,s1,e1,e2⟩:=Tg e
   cases e2
   obtain ⟨x',w',g',k1,k2,k3,k4,k5⟩:=Az6 (P:=P) h (Wj h hv) e1
   exact Nf.val (v:=x') (by simp [execOp,k1]) k2 k3 ⟨k4,k5⟩
  ·cases e
 case build T parts=>
  obtain ⟨v,e1,e2⟩:=Ajh e
  cases e2
  obtain ⟨u,k1,k2⟩:=Avc h e1
  exact Nf.here h (v:=u) (by simp only [execOp,Sem.run_bind,k1]; rfl) k2
 case buildSlice T len parts=>
  split at e
  ·rename_i hsl
   have hlen:len=1:=by
    unfold A0f at hsl
    split at hsl
    ·split at hsl
     ·exact Nat.eq_of_beq_eq_true hsl
     ·cases hsl
    ·cases hsl
   subst hlen
   obtain ⟨l,s1,e1,e2⟩:=Tg e
   cases e2
   obtain ⟨u,w',g',k1,k2,k3,k4,k5⟩:=Asz h e1
   exact Nf.val (v:=u) (by simp only [execOp,Sem.run_bind,k1]; rfl) k2 k3 ⟨k4,k5⟩
  ·obtain ⟨l,s1,e1,e2⟩:=Tg e
   cases e2
   obtain ⟨u,w',g',k1,k2,k3,k4,k5⟩:=Ahv h e1
   exact Nf.val (v:=u) (by simp only [execOp,Sem.run_bind,k1]; rfl) k2 k3 ⟨k4,k5⟩
 case load T x=>
  split at e
  ·obtain ⟨l,e1,e2⟩:=Ajg e
   cases e2
   obtain ⟨u,k1,k2,k3⟩:=Avj h e1
   exact Nf.here h (v:=u) (by simp [execOp,k1]) ⟨k2,k3⟩
  ·obtain ⟨v,e1,e2⟩:=Ajh e
   cases e2
   obtain ⟨u,k1,k2⟩:=Ayp h e1
   exact Nf.here h (v:=u) (by simp [execOp,k1]) k2
 case store T x y=>
  split at e
  ·obtain ⟨s1,e1,e2⟩:=Acj e
   cases e2
   obtain ⟨w',g',k1,k2,k3⟩:=Asx h e1
   exact Nf.skip (by simp [execOp,k1]) k2 k3
  ·obtain ⟨s1,e1,e2⟩:=Acj e
   cases e2
   obtain ⟨w',g',k1,k2,k3⟩:=Avf h (Aq2 e1)
   exact Nf.skip (by simp [execOp,k1]) k2 k3
 case nilCheck x=>
  obtain ⟨v,e1,e2⟩:=i7 e
  cases e2
  obtain ⟨⟨ad,k1⟩,k2⟩:=Ano h e1
  refine Nf.here h (v:=a.eval x) ?_ k2
  simp [execOp,k1]
 case binOp op T x y U=>
  have viaV:∀ {op:BinOp} {v:Value},((do eqGuard op T x y (a.eval x) (a.eval y); binOp op T (a.eval x) (a.eval y)):Sem Value).run P w=.ok v w∧v.oneCell'=true→Nf P n B Iq s g a w ⟨dst,.binOp op T x y U,type,pos,after,guard⟩ (.vl (.lf (.c v))) s:=by
   intro op v hv
   refine Nf.here h (v:=v) ?_ (Ng hv.2)
   simp only [execOp,Sem.run_bind] at hv ⊢
   rw [hv.1]
   rfl
  have hsel:∀ (op:BinOp) cs b,Op.binOp op T x y U≠.select cs b:=by intro op cs b q; cases q
  split at e
  ·split at e
   ·obtain ⟨v,e1,e2⟩:=Aaj e
    cases e2
    exact viaV (Ass h e1)
   ·exact viaConc (hsel _) e
  ·obtain ⟨v,e1,e2⟩:=Aaj e
   cases e2
   exact viaV (Akf h e1)
  ·obtain ⟨v,e1,e2⟩:=Aaj e
   cases e2
   exact viaV (Akf h e1)
  ·obtain ⟨v,e1,e2⟩:=Aaj e
   cases e2
   exact viaV (Akf h e1)
  ·split at e
   ·obtain ⟨v,e1,e2⟩:=Ws e
    cases e2
    exact viaV (Ao1 h e1)
   ·exact viaConc (hsel _) e
  ·split at e
   ·obtain ⟨v,e1,e2⟩:=Ws e
    cases e2
    exact viaV (Ao1 h e1)
   ·exact viaConc (hsel _) e
  ·exact viaConc (hsel _) e
 case unOp op T x=>exact viaConc (by intro cs b q; cases q) e
 case convert T U x=>
  split at e
  ·obtain ⟨v,e1,e2⟩:=Ws e
   cases e2
   obtain ⟨k1,k2⟩:=Anj h e1
   exact Nf.here h (v:=v) (by simp [execOp,k1]) (Ng k2)
  ·split at e
   ·obtain ⟨l,s1,e1,e2⟩:=i6 e
    cases e2
    obtain ⟨u,w',g',k1,k2,k3,k4,k5⟩:=Anm h e1
    exact Nf.val (v:=u) (by simp [execOp,k1]) k2 k3 ⟨k4,k5⟩
   ·exact viaConc (by intro cs b q; cases q) e
 case makeSlice T x y=>
  obtain ⟨l,s1,e1,e2⟩:=i6 e
  cases e2
  obtain ⟨u,w',g',k1,k2,k3,k4,k5⟩:=Aj8 h (Ae5 e1)
  exact Nf.val (v:=u) (by simp [execOp,k1]) k2 k3 ⟨k4,k5⟩
 case slice T x lo hi mx=>
  split at e
  ·obtain ⟨v,e1,e2⟩:=Aaj e
   cases e2
   obtain ⟨k1,k2⟩:=Anl h e1
   exact Nf.here h (v:=v) (by simp only [execOp,Sem.run_bind,k1]; rfl) (Ng k2)
  ·split at e
   ·obtain ⟨l,s1,e1,e2⟩:=i6 e
    cases e2
    obtain ⟨u,g',k1,k2,k3,k4,k5⟩:=Avd h (Aq1 e1)
    exact Nf.val (v:=u) (by simp only [execOp,Sem.run_bind,Option.map_none,k1]; rfl) k2 k3 ⟨k4,k5⟩
   ·cases e
 case fieldAddr T x f=>
  obtain ⟨l,s1,e1,e2⟩:=Tg e
  cases e2
  obtain ⟨l',e3,e4⟩:=Option.map_eq_some_iff.1 e1
  cases e4
  obtain ⟨u,k1,k2,k3⟩:=Aj2 h e3
  exact Nf.here h (v:=u) (by simp [execOp,k1]) ⟨k2,k3⟩
 case field T x f=>
  obtain ⟨v,e1,e2⟩:=Ajh e
  cases e2
  obtain ⟨u,k1,k2⟩:=Ava h e1
  exact Nf.here h (v:=u) (by simp [execOp,k1]) k2
 case indexAddr T x y=>
  split at e
  ·obtain ⟨l,e1,e2⟩:=Ajg e
   cases e2
   obtain ⟨u,k1,k2,k3⟩:=Asv h e1
   exact Nf.here h (v:=u) (by simp [execOp,k1]) ⟨k2,k3⟩
  ·obtain ⟨l,e1,e2⟩:=Ajg e
   cases e2
   obtain ⟨u,k1,k2,k3⟩:=Aj3 h (Ae4 e1)
   exact Nf.here h (v:=u) (by simp [execOp,k1]) ⟨k2,k3⟩
 case index T x y=>
  obtain ⟨v,e1,e2⟩:=Aaj e
  cases e2
  obtain ⟨k1,k2⟩:=Ank h e1
  exact Nf.here h (v:=v) (by simp [execOp,k1]) (Ng k2)
 case extract x i=>
  obtain ⟨v,e1,e2⟩:=i7 e
  cases e2
  obtain ⟨u,k1,k2⟩:=Aq4 (P:=P) h e1
  exact Nf.here h (v:=u) (by simp [execOp,k1]) k2
 case makeMap T hint=>
  cases hint with
  | some _=>cases e
  | none=>
   obtain ⟨l,s1,e1,e2⟩:=Tg e
   cases e2
   obtain ⟨u,w',g',k1,k2,k3,k4,k5⟩:=Aq0 h e1
   exact Nf.val (v:=u) (by simp [execOp,k1]) k2 k3 ⟨k4,k5⟩
 case mapUpdate T m k v=>
  obtain ⟨s1,e1,e2⟩:=Acj e
  cases e2
  obtain ⟨w',g',k1,k2,k3⟩:=As1 h (Aw6 e1)
  exact Nf.skip (by simp [execOp,k1]) k2 k3
 case lookup T m k ok=>
  cases ok with
  | true=>cases e
  | false=>
   obtain ⟨v,e1,e2⟩:=Ws e
   cases e2
   obtain ⟨k1,k2⟩:=Aqz h e1
   exact Nf.here h (v:=v) (by simp [execOp,k1]) (Ng k2)
 case range T m=>
  obtain ⟨l,s1,e1,e2⟩:=Tg e
  cases e2
  obtain ⟨u,w',g',k1,k2,k3,k4,k5⟩:=Avk h e1
  exact Nf.val (v:=u) (by simp [execOp,k1]) k2 k3 ⟨k4,k5⟩
 case entry it=>
  obtain ⟨av,e1,e2⟩:=i7 e
  cases e2
  obtain ⟨v,k1,k2⟩:=Avl (P:=P) h e1
  exact Nf.here h (v:=v) (by simp [execOp,k1]) k2
 case makeFunc f first captured=>
  obtain ⟨v,e1,e2⟩:=i7 e
  cases e2
  unfold Akl at e1
  split at e1
  ·rename_i f0 hfirst
   obtain ⟨ls,q1,rfl⟩:=Option.map_eq_some_iff.1 e1
   have hf':first=#[]:=by apply Array.toList_inj.1; simpa using hfirst
   subst hf'
   refine Nf.here h (v:=.func (.func f0) #[] (captured.map a.eval)) (by simp [execOp,Instr.makeFunc]) ⟨_,rfl,?_⟩
   rw [Array.toList_map]
   exact Ao6 h q1
  ·cases e1
 case call c=>
  obtain ⟨callee,args,argTypes⟩:=c
  simp only at e
  split at e
  ·split at e
   ·rename_i x T ha ht
    have ha':args=#[x]:=by apply Array.toList_inj.1; simpa using ha
    have ht':argTypes=#[T]:=by apply Array.toList_inj.1; simpa using ht
    subst ha' ht'
    split at e
    ·split at e
     ·obtain ⟨v,e1,e2⟩:=Ws e
      cases e2
      obtain ⟨k1,k2⟩:=Ays (ty:=type) h e1
      exact Nf.here h (v:=v) (by simp [execOp,resolve,invoke,builtin,k1]) (Ng k2)
     ·obtain ⟨v,e1,e2⟩:=Ws e
      cases e2
      obtain ⟨k1,k2⟩:=Az5 (ty:=type) h e1
      exact Nf.here h (v:=v) (by simp [execOp,resolve,invoke,builtin,k1]) (Ng k2)
    ·split at e
     ·obtain ⟨v,e1,e2⟩:=Ws e
      cases e2
      obtain ⟨k1,k2⟩:=As3 (ty:=type) h e1
      exact Nf.here h (v:=v) (by simp [execOp,resolve,invoke,builtin,k1]) (Ng k2)
     ·exact viaConc (by intro cs b q; cases q) e
   ·cases e
  ·split at e
   ·rename_i x y T U ha ht
    have ha':args=#[x,y]:=by apply Array.toList_inj.1; simpa using ha
    have ht':argTypes=#[T,U]:=by apply Array.toList_inj.1; simpa using ht
    subst ha' ht'
    split at e
    ·obtain ⟨l,s1,e1,e2⟩:=i6 e
     cases e2
     obtain ⟨u,w',g',k1,k2,k3,k4,k5⟩:=Aj6 (ty:=type) h (Ae6 e1)
     exact Nf.val (v:=u) (by simp [execOp,resolve,invoke,builtin,k1]) k2 k3 ⟨k4,k5⟩
    ·split at e
     ·rename_i hUT
      subst hUT
      split at e
      ·obtain ⟨l,s1,e1,e2⟩:=i6 e
       cases e2
       obtain ⟨u,w',g',k1,k2,k3,k4,k5⟩:=Aqw (ty:=type) h e1
       exact Nf.val (v:=u) (by simp [execOp,resolve,invoke,builtin,k1]) k2 k3 ⟨k4,k5⟩
      ·obtain ⟨l,s1,e1,e2⟩:=i6 e
       cases e2
       obtain ⟨u,w',g',k1,k2,k3,k4,k5⟩:=Aso (ty:=type) h (Ann e1)
       exact Nf.val (v:=u) (by simp [execOp,resolve,invoke,builtin,k1]) k2 k3 ⟨k4,k5⟩
     ·cases e
   ·cases e
  ·split at e
   ·rename_i x y T U ha ht
    have ha':args=#[x,y]:=by apply Array.toList_inj.1; simpa using ha
    have ht':argTypes=#[T,U]:=by apply Array.toList_inj.1; simpa using ht
    subst ha' ht'
    obtain ⟨s1,e1,e2⟩:=Acj e
    cases e2
    obtain ⟨w',g',k1,k2,k3⟩:=As2 (ty:=type) h (Aw6 e1)
    exact Nf.val (v:=.tuple #[]) (by simp [execOp,resolve,invoke,builtin,k1]) k2 k3 trivial
   ·cases e
  ·exact viaConc (by intro cs b q; cases q) e
  ·exact viaConc (by intro cs b q; cases q) e
  ·cases e
end
end Go.Proofs.YtfkefgbihlfjmaaGreat.R

