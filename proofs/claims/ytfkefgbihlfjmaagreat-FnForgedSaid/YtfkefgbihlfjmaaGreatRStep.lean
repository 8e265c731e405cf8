/- The evaluator's single operations: what an operation comes to, told of the state alone. No condition. -/
import Derived.Test.YtfkefgbihlfjmaaGreatRTy
import Derived.Laws.BytesArg
namespace Go.Proofs.YtfkefgbihlfjmaaGreat.R
open Go Go.RowKit
set_option linter.unusedVariables false
set_option linter.unusedSimpArgs false
def quiet {α:Type} (P:Program):Sem α→Option α
 | .pure a=>some a
 | .program k=>quiet P (k P)
 | .mark _ k=>quiet P k
 | _=>none
theorem Aeu {α:Type} {P:Program}:∀ {s:Sem α} {a:α},quiet P s=some a→∀ w,s.run P w=.ok a w
 | .pure a,_,h,w=>by cases h; rfl
 | .program k,_,h,w=>Aeu (s:=k P) h w
 | .mark _ k,_,h,w=>Aeu (s:=k) h w
 | .load ..,_,h,_ | .store ..,_,h,_ | .new ..,_,h,_ | .shape ..,_,h,_ | .freeze ..,_,h,_ | .frozen ..,_,h,_ | .getObj ..,_,h,_ | .setObj ..,_,h,_
 | .choose ..,_,h,_ | .sys ..,_,h,_ | .halt ..,_,h,_=>by simp [quiet] at h
def S9 {α:Type} (f:Nat→α) (i:Nat) (v:α):Nat→α:=fun j=>if j=i then v else f j
@[simp] theorem A9 {α:Type} (f:Nat→α) (i:Nat) (v:α):S9 f i v i=v:=by simp [S9]
theorem A1 {α:Type} (f:Nat→α) {i j:Nat} (v:α) (h:j≠i):S9 f i v j=f j:=by simp [S9,h]
def St.setRes (s:St) (id:Nat) (r:Res):St:={ s with res:=S9 s.res id r }
def St.setCell (s:St) (i:Nat) (v:AV):St:={ s with cell:=S9 s.cell i v }
def Ajz:List Value→Bool
 | []=>true
 | v::r=>v.oneCell'&&Ajz r
def Aja (v:Value):AV:=match v with
 | .agg cs=>if Ajz cs.toList then .vl (.ag (cs.toList.map .c)) else .dead
 | .tuple _=>.dead
 | v=>.vl (.lf (.c v))
def St.op (s:St):Operand→AV
 | .tmp t=>s.cell t
 | .const v=>Aja v
 | _=>.dead
def St.conc (s:St) (x:Operand):Option Value:=match s.op x with
 | .vl (.lf (.c v))=>some v
 | _=>none
def St.leaf (s:St) (x:Operand):Option Lf:=match s.op x with
 | .vl (.lf l)=>some l
 | _=>none
def St.value (s:St) (x:Operand):Option Vl:=match s.op x with
 | .vl v=>some v
 | _=>none
def We (s:St):List Operand→Bool
 | []=>true
 | x::r=>(match s.conc x with | some _=>true | none=>false)&&We s r
def Mj (P:Program) (s:St) (o:Oper):Option Value:=
 if We s o.op.operands.toList then
  match quiet P (execOp (fun x=>(s.conc x).getD undef) o) with
  | some (.value v)=>if v.oneCell' then some v else none
  | _=>none
 else none
def Wf {α:Type} (c:Bool) (xs:List α) (y:α):List α:=bif c then xs++[y] else xs
def St.frz (s:St):List Lf→St
 | []=>s
 | .row id::r=>match s.res id with
  | .row _ t xs=>(s.setRes id (.frozen t xs)).frz r
  | .last _ t xs c j=>match s.res j with
   | .row _ t' ys=>if h:t'=t then ((s.setRes j (.frozen t' ys)).setRes id (.frozen (.sl t) (Wf c xs (h ▸ ys)))).frz r else s.frz r
   | _=>s.frz r
  | _=>s.frz r
 | _::r=>s.frz r
def St.at_ (s:St):Lf→Option (List Lf)
 | .ptr id off=>match s.res id with
  | .box _ ls=>some (ls.drop off)
  | _=>none
 | .ep t xs i off=>some ((t.leafs (xs.getD i t.zero)).drop off)
 | .rp id i off=>match s.res id with
  | .row _ t xs=>some ((t.leafs (xs.getD i t.zero)).drop off)
  | _=>none
 | _=>none
def Ab5 (P:Program) (t:TypeId):Option Bool:=match P.underlying t with
 | some (.struct _)=>some true
 | some (.array _ _)=>some true
 | some _=>some false
 | none=>none
def Wg (P:Program) (t:TypeId) (ls:List Lf):Option Vl:=match Ab5 P t with
 | some true=>match P.info? t with
  | some i=>if i.size≤ls.length then some (.ag (ls.take i.size)) else none
  | none=>none
 | some false=>match ls with
  | l::_=>some (.lf l)
  | []=>none
 | none=>none
def Aj0 (P:Program) (s:St) (t:TypeId) (x:Operand):Option Vl:=
 (s.leaf x).bind fun l=>(s.at_ l).bind fun ls=>Wg P t ls
def Ajb (P:Program) (s:St) (t:TypeId) (x y:Operand):Option St:=
 (s.leaf x).bind fun l=>(s.value y).bind fun v=>match P.info? t with
  | none=>none
  | some i=>if v.ls.length=i.size then match l with
    | .ptr id off=>match s.res id with
     | .box T ls=>if off + v.ls.length≤ls.length then some (s.setRes id (.box T (ls.take off++v.ls++ls.drop (off + v.ls.length)))) else none
     | _=>none
    | .rp id i off=>match (s.frz v.ls).res id with
     | .row e t xs=>if i < xs.length then let old:=t.leafs (xs.getD i t.zero)
       if off + v.ls.length≤old.length then match (s.frz v.ls).parse t (old.take off++v.ls++old.drop (off + v.ls.length)) with
        | some (x,[])=>some ((s.frz v.ls).setRes id (.row e t (List.set xs i x)))
        | _=>none
       else none
      else none
     | _=>none
    | _=>none
   else none
def Aj1 (P:Program) (S:TypeId) (f:Nat):Option Nat:=match P.underlying S with
 | some (.struct fs)=>match fs[f]? with
  | some fd=>match P.info? fd.type with
   | some i=>if i.size=0 then none else some fd.offset
   | none=>none
  | none=>none
 | _=>none
def Yv (P:Program) (s:St) (S:TypeId) (x:Operand) (f:Nat):Option Lf:=
 (Aj1 P S f).bind fun d=>(s.leaf x).bind fun l=>(s.at_ l).bind fun _=>match l with
  | .ptr id off=>some (.ptr id (off + d))
  | .ep t xs i off=>some (.ep t xs i (off + d))
  | .rp id i off=>some (.rp id i (off + d))
  | _=>none
def Aqj (P:Program) (s:St) (S:TypeId) (x:Operand) (f:Nat):Option Vl:=match s.value x,P.underlying S with
 | some (.ag ls),some (.struct fs)=>match fs[f]? with
  | some fd=>Wg P fd.type (ls.drop fd.offset)
  | none=>none
 | _,_=>none
inductive Sl where
 | rd (t:Ty) (xs:List t.D)
 | own (id:Nat) (t:Ty) (xs:List t.D)
def St.sl (s:St):Lf→Option Sl
 | .sl t xs=>some (.rd t xs)
 | .row id=>match s.res id with
  | .row _ t xs=>some (.own id t xs)
  | .frozen t xs=>some (.rd t xs)
  | _=>none
 | _=>none
def Ta (P:Program) (s:St) (T:TypeId) (x y:Operand):Option Lf:=
 match P.underlying T with
 | some (.slice e)=>match P.info? e,(s.leaf x).bind s.sl,s.conc y with
  | some i,some (.rd t xs),some (.int _ n)=>if i.size=t.sz then (if 0≤n then (if n < (xs.length:Int) then some (.ep t xs n.toNat 0) else none) else none) else none
  | some i,some (.own id t xs),some (.int _ n)=>if i.size=t.sz then (if 0≤n then (if n < (xs.length:Int) then some (.rp id n.toNat 0) else none) else none) else none
  | _,_,_=>none
 | _=>none
def Aot (P:Program) (s:St) (T:TypeId) (x:Operand):Option Value:=
 match P.underlying T with
 | some (.slice _)=>match (s.leaf x).bind s.sl with
  | some (.rd _ xs)=>some (.int .i64 (xs.length:Int))
  | some (.own _ _ xs)=>some (.int .i64 (xs.length:Int))
  | none=>match s.conc x with
   | some (.slice none 0 0)=>some (.int .i64 0)
   | _=>none
 | _=>none
def Az3 (s:St) (nid:Nat) (T:TypeId) (v:Vl):Option (Lf×St):=match s.res nid with
 | .unborn=>some (.ptr nid 0,s.setRes nid (.box T v.ls))
 | _=>none
def Wh (P:Program) (T:TypeId):Option (List Lf):=match P.info? T with
 | some i=>match i.zero with
  | some z=>if Ajz z.cells.toList then some (z.cells.toList.map .c) else none
  | none=>none
 | none=>none
def Aqk (P:Program) (s:St) (nid:Nat) (T:TypeId):Option (Lf×St):=match s.res nid,Wh P T with
 | .unborn,some ls=>some (.ptr nid 0,s.setRes nid (.box T ls))
 | _,_=>none
def Yw (place:Nat→Option (Nat×Nat)) (ls:List Lf):List (Nat×Vl)→Option (List Lf)
 | []=>some ls
 | (i,v)::rest=>match place i with
  | none=>none
  | some (off,size)=>if v.ls.length=size then (if off + v.ls.length≤ls.length then Yw place (ls.take off++v.ls++ls.drop (off + v.ls.length)) rest else none) else none
def Yx (s:St):List (Nat×Operand)→Option (List (Nat×Vl))
 | []=>some []
 | (i,x)::r=>match s.value x,Yx s r with
  | some v,some vs=>some ((i,v)::vs)
  | _,_=>none
def Ab6 (P:Program):List Field→Option (List (Nat×Nat))
 | []=>some []
 | f::r=>match P.info? f.type,Ab6 P r with
  | some i,some l=>some ((f.offset,i.size)::l)
  | _,_=>none
def Aql (P:Program) (s:St) (T:TypeId) (parts:Array (Nat×Operand)):Option Vl:=
 match P.underlying T with
 | some (.struct fs)=>match Ab6 P fs.toList,Wh P T,Yx s parts.toList with
   | some pl,some z,some vs=>(Yw (fun i=>pl[i]?) z vs).map .ag
   | _,_,_=>none
 | _=>none
def Ab7 (s:St) (t:Ty):Nat→List Lf→Option (List t.D)
 | 0,[]=>some []
 | 0,_::_=>none
 | k + 1,ls=>(s.parse t ls).bind fun p=>(Ab7 s t k p.2).bind fun r=>some (p.1::r)
def A3z (f:TypeId→Option Ty):List Field→Nat→Option Ty
 | [],_=>some .unit
 | d::r,off=>if d.offset=off then (f d.type).bind fun a=>(A3z f r (off + a.sz)).bind fun b=>some (.pair a b) else none
def A2i (P:Program):Nat→TypeId→Option Ty
 | 0,_=>none
 | k + 1,t=>match P.underlying t with
  | some (.int i)=>some (.int i)
  | some .bool=>some .bool
  | some .string=>some .str
  | some (.slice e)=>(A2i P k e).map .sl
  | some (.struct fs)=>A3z (A2i P k) fs.toList 0
  | _=>none
structure El where
 e:TypeId
 t:Ty
 z:List Lf
 bytes:Nat
def Ab8 (P:Program) (T:TypeId):Option El:=match P.underlying T with
 | some (.slice e)=>match A2i P 12 e,P.info? e,Wh P e with
  | some t,some i,some z=>if i.size=t.sz then (if 0 < t.sz then (if z.length=t.sz then (if 0 < i.bytes∧mkT t=false then some ⟨e,t,z,i.bytes⟩ else none) else none) else none) else none
  | _,_,_=>none
 | _=>none
def Yy (z:List Lf):Nat→List Lf
 | 0=>[]
 | k + 1=>z++Yy z k
def Asm:List (Nat×Vl)→List Lf
 | []=>[]
 | (_,v)::r=>v.ls++Asm r
def Wi (P:Program) (s:St) (nid:Nat) (T:TypeId) (len:Nat) (parts:Array (Nat×Operand)):Option (Lf×St):=
 match s.res nid,Ab8 P T,Yx s parts.toList with
 | .unborn,some el,some vs=>if len * el.t.sz≤16777216 then
   (Yw (fun i=>some (i * el.t.sz,el.t.sz)) (Yy el.z len) vs).bind fun ls=>
    match (s.frz (Asm vs)).res nid with
    | .unborn=>(Ab7 (s.frz (Asm vs)) el.t len ls).bind fun xs=>some (.row nid,(s.frz (Asm vs)).setRes nid (.row el.e el.t xs))
    | _=>none
  else none
 | _,_,_=>none
def Tc (P:Program) (s:St) (nid:Nat) (T:TypeId) (x y:Operand):Option (Lf×St):=
 match s.res nid,Ab8 P T,s.conc x,s.conc y with
 | .unborn,some el,some (.int _ k),some (.int _ c)=>if k=c then (if 0≤k then (if k.toNat * el.bytes≤140737488355328 then
   (match s.parse el.t el.z with
   | some (x0,[])=>some (.row nid,s.setRes nid (.row el.e el.t (List.replicate k.toNat x0)))
   | _=>none) else none) else none) else none
 | _,_,_,_=>none
def U1 (s:St) (el:El):Lf→Option (Option Nat×List el.t.D)
 | .c (.slice none 0 0)=>some (none,[])
 | .row id=>match s.res id with
  | .row e t xs=>if e=el.e then (if h:t=el.t then some (some id,h ▸ xs) else none) else none
  | _=>none
 | _=>none
def Td (s:St) (t:Ty):Lf→Option (List t.D)
 | .c (.slice none 0 0)=>some []
 | .sl t' xs=>if h:t'=t then some (h ▸ xs) else none
 | .row id=>match s.res id with
  | .row _ t' xs=>if h:t'=t then some (h ▸ xs) else none
  | .frozen t' xs=>if h:t'=t then some (h ▸ xs) else none
  | _=>none
 | _=>none
def Fe (s:St):Option Nat→St
 | some id=>s.setRes id .dead
 | none=>s
def Ab9 (P:Program) (s:St) (nid:Nat) (T:TypeId) (x y:Operand):Option (Lf×St):=
 match s.res nid,Ab8 P T,s.leaf x,s.leaf y with
 | .unborn,some el,some lx,some ly=>(U1 s el lx).bind fun p=>(Td s el.t ly).bind fun ys=>
   if (p.2.length + List.length ys) * el.bytes≤140737488355328 then some (.row nid,(Fe s p.1).setRes nid (.row el.e el.t (p.2++ys))) else none
 | _,_,_,_=>none
def Ab (s:ByteArray):List Int:=s.data.toList.map fun b=>(b.toNat:Int)
def Te (P:Program) (s:St) (nid:Nat) (T U:TypeId) (x y:Operand):Option (Lf×St):=
 match s.res nid,P.underlying T,P.underlying U,s.leaf x,s.conc y with
 | .unborn,some (.slice e),some .string,some lx,some (.string q)=>match P.info? e,Wh P e with
  | some i,some z=>if i.size=1 then (if i.bytes=1 then (match z with
   | [.c (.int .u8 0)]=>(U1 s ⟨e,.int .u8,z,1⟩ lx).bind fun p=>
    if p.2.length + q.size≤140737488355328 then some (.row nid,(Fe s p.1).setRes nid (.row e (.int .u8) ((show List Int from p.2)++Ab q))) else none
   | _=>none) else none) else none
  | _,_=>none
 | _,_,_,_,_=>none
def Ajc (P:Program) (s:St) (T:TypeId) (x:Operand) (lo hi:Option Operand):Option (Lf×St):=
 match P.underlying T with
 | some (.slice e)=>match P.info? e,s.leaf x with
  | some i,some l=>match (s.frz [l]).sl l with
   | some (.rd t xs)=>if i.size=t.sz then
     (match (match lo with | some y=>s.conc y | none=>some (.int .i64 0)),(match hi with | some y=>s.conc y | none=>some (.int .i64 (List.length xs))) with
     | some (.int _ a),some (.int _ b)=>if 0≤a then (if a≤b then (if b≤(List.length xs:Int) then some (.sl t (List.drop a.toNat (List.take b.toNat xs)),s.frz [l]) else none) else none) else none
     | _,_=>none) else none
   | _=>none
  | _,_=>none
 | _=>none
abbrev tMk:Ty:=.pair (.int .u8) .unit
def Au7 (xs:List Int):List (Int×Unit):=xs.map fun x=>(x,())
def Au8 (xs:List (Int×Unit)):List Int:=xs.map fun x=>x.1
def Aaa (P:Program) (s:St) (nid:Nat) (src dst:TypeId) (x:Operand):Option (List Bool×Lf×St):=
 match s.res nid,P.underlying src,P.underlying dst,s.conc x with
 | .unborn,some .string,some (.slice e),some (.string q)=>match P.underlying e with
  | some (.int .u8)=>some ([decide (q.size≤140737488355328)],.row nid,s.setRes nid (.row e tMk (Au7 (Ab q))))
  | _=>none
 | _,_,_,_=>none
def Aab (P:Program) (s:St) (src dst:TypeId) (x:Operand):Option Value:=
 match P.underlying src,P.underlying dst with
 | some (.slice e),some .string=>match P.underlying e,(s.leaf x).bind (Td s (.int .u8)) with
  | some (.int .u8),some xs=>some (.string (strOfNums xs))
  | some (.int .u8),none=>match (s.leaf x).bind (Td s tMk) with
   | some xs=>some (.string (strOfNums (Au8 xs)))
   | none=>none
  | _,_=>none
 | _,_=>none
end Go.Proofs.YtfkefgbihlfjmaaGreat.R

