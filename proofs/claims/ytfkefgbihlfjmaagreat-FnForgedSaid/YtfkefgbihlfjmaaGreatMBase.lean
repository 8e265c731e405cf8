/- Words that the models use. No condition. -/
import Derived.Test.YtfkefgbihlfjmaaGreatRGen
namespace Go.Proofs.YtfkefgbihlfjmaaGreat.V
open Go Go.Proofs.YtfkefgbihlfjmaaGreat.R
abbrev Pg:=Int×Int×Int×ByteArray×Unit
abbrev Wr:=Int×ByteArray×Unit
abbrev Dk:=List ByteArray×List Wr×Unit
abbrev Opn:=Bool×Int×ByteArray×Unit
abbrev Scd:=List ByteArray×Int×Int×Unit
abbrev Pr2:=ByteArray×ByteArray×Unit
abbrev Stt:=List Pr2×Unit
abbrev Chg:=ByteArray×ByteArray×Bool×Unit
abbrev Rt:=Int×Int×Int×Int×Unit
abbrev Sto:=Int×Int×Int×Rt×Int×Int×Stt×Unit
abbrev Don:=Int×Sto×List Opn×Unit
abbrev Wld:=Int×Dk×Bool×Sto×List Stt×List ByteArray×Unit
abbrev Evt:=Int×List Chg×Int×List Int×Unit
abbrev tI:Ty:=.int .i64
abbrev yPg:Ty:=.pair tI (.pair tI (.pair tI (.pair .str .unit)))
abbrev Da:Ty:=.pair tI (.pair .str .unit)
abbrev yDk:Ty:=.pair (.sl .str) (.pair (.sl Da) .unit)
abbrev Kg:Ty:=.pair .bool (.pair tI (.pair .str .unit))
abbrev Av:Ty:=.pair .str (.pair .str .unit)
abbrev Ci:Ty:=.pair (.sl Av) .unit
abbrev D7:Ty:=.pair .str (.pair .str (.pair .bool .unit))
abbrev yRt:Ty:=.pair tI (.pair tI (.pair tI (.pair tI .unit)))
abbrev Ahx:Ty:=.pair tI (.pair tI (.pair tI (.pair yRt (.pair tI (.pair tI (.pair Ci .unit))))))
abbrev A29:Ty:=.pair tI (.pair Ahx (.pair (.sl Kg) .unit))
abbrev Fr:Ty:=.pair tI (.pair yDk (.pair .bool (.pair Ahx (.pair (.sl Ci) (.pair (.sl .str) .unit)))))
abbrev A1h:Ty:=.pair tI (.pair (.sl D7) (.pair tI (.pair (.sl tI) .unit)))
def eqI (a b:Int):Bool:=decide (a=b)
def A1i:Nat→Int→ByteArray→ByteArray
 | 0,_,out=>out
 | m + 1,k,out=>if k > 0 then A1i m (k / 10) (strOfNums [48 + k % 10]++out) else out
def mkT (k:Int):ByteArray:=if k≤0 then ⟨#[109,48]⟩ else ⟨#[109]⟩++A1i 20 k ⟨#[]⟩
def Ch (v lo hi:Int):Bool:=decide (lo≤v)&&decide (v≤hi)
def M9 (k:ByteArray):Bool:=Ch (k.size:Int) 1 20
def bl (a b:ByteArray):Bool:=Op.bytesLess (ByteArray.toList a) (ByteArray.toList b)
def z0:ByteArray:=⟨#[]⟩
abbrev zP:Pr2:=(⟨#[]⟩,⟨#[]⟩,())
def J7 (xs:List Pr2) (i:Nat):Bool:=M9 (xs.getD i zP).1&&(decide ((xs.getD i zP).2.1.size≤100)&&(i==0 || bl (xs.getD (i - 1) zP).1 (xs.getD i zP).1))
def Aj (s:Stt):Bool:=decide (s.1.length≤100)&&(List.range' 0 s.1.length).all (J7 s.1)
def Nl (c:Chg):Bool:=M9 c.1&&(decide (c.2.1.size≤100)&&!(c.2.2.1&&!(c.2.1.toList==[])))
abbrev zC:Chg:=(⟨#[]⟩,⟨#[]⟩,false,())
def Bb (b:List Chg):Bool:=Ch (b.length:Int) 1 20&&(List.range' 0 b.length).all fun i=>Nl (b.getD i zC)
def H1 {α E:Type} (p:α→Bool) (out:α→E) (ok:E):List α→E
 | []=>ok
 | x::r=>bif p x then out x else H1 p out ok r
def zW:Wr:=(0,⟨#[]⟩,())
def l6 (n:Nat) (w:Wr):Bool:=decide (0≤w.1)&&(decide (w.1 < (n:Int))&&decide (w.2.1.size=64))
def A0 (d:Dk):Bool:=Ch (d.1.length:Int) 8 200&&(decide (d.2.1.length≤300)&&((List.range' 0 d.1.length).all (fun i=>decide ((d.1.getD i z0).size=64))&&(List.range' 0 d.2.1.length).all fun i=>l6 d.1.length (d.2.1.getD i zW)))
def F3 {α σ:Type} (step:Nat→α→σ→σ):Nat→List α→σ→σ
 | _,[],s=>s
 | i,x::r,s=>F3 step (i + 1) r (step i x s)
def Lp (sec:List ByteArray) (ws:List Wr):List ByteArray:=F3 (fun _ w s=>s.set w.1.toNat w.2.1) 0 ws sec
def Aps (d:Dk):Dk:=(Lp d.1 d.2.1,[],())
def Ahy (d:Dk) (a:Int):ByteArray:=H1 (fun w=>w.1==a) (fun w=>w.2.1) (d.1.getD a.toNat z0) d.2.1.reverse
def zS:ByteArray:=strOfNums (List.replicate 64 0)
def Nm (n:Int):Dk:=bif Ch n 8 200 then (List.replicate n.toNat zS,[],()) else ([],[],())
def Rl (f:Int):Int:=if f < 0 then 0 else if f > 64 then 64 else f
def Uo (f:List Int) (i:Nat):Int:=if i < f.length then Rl (f.getD i 0) else 0
def A3a (a b:ByteArray) (k:Int):ByteArray:=Ac a 0 k++Ac b k (nI b.size)
def Apt (f:List Int) (sec:List ByteArray) (ws:List Wr):List ByteArray:=F3 (fun i w s=>s.set w.1.toNat (A3a w.2.1 (s.getD w.1.toNat z0) (Uo f i))) 0 ws sec
def I2 (d:Dk) (f:List Int):Dk:=bif A0 d then (Apt f d.1 d.2.1,[],()) else ([],[],())
def Nc (v:Int):Nat→List Int
 | 0=>[]
 | n + 1=>Nc (v / 256) n++[v % 256]
def C9 (v:Int) (n:Nat):ByteArray:=strOfNums (Nc v n)
def Atr (s:ByteArray):Nat→Nat→Int→Int
 | 0,_,v=>v
 | k + 1,i,v=>Atr s k (i + 1) (v * 256 + An s i)
def l7 (s:ByteArray):Int:=Atr s s.size 0 0
def Ze (h b:Int):Int:=IntKind.wrap IntKind.u64 (IntKind.wrap IntKind.u64 (nI (BitVec.toNat (BitVec.ofInt 64 h ^^^ BitVec.ofInt 64 (IntKind.wrap IntKind.u64 b)))) * 1099511628211)
def iter {σ:Type} (f:Nat→σ→σ):Nat→Nat→σ→σ
 | 0,_,s=>s
 | k + 1,i,s=>iter f k (i + 1) (f i s)
def Aff (s:ByteArray) (k i:Nat) (h:Int):Int:=iter (fun i h=>Ze h (An s i)) k i h
def Ac1 (s:ByteArray) (w:Int):ByteArray:=bif Ch w 1 8 then C9 (Aff s s.size 0 14695981039346656037) w.toNat else ⟨#[]⟩
def Fg (p:Pg) (w:Int):Bool:=Ch w 1 8&&(Ch p.1 1 4&&(Ch p.2.1 1 60000&&(Ch p.2.2.1 1 1000000000&&(decide ((p.2.2.2.1.size:Int)≤56 - w)&&(p.1 != 3 || (p.2.2.2.1.toList==[]))))))
def F4 (p:Pg) (w:Int):ByteArray:=C9 p.1 1++C9 p.2.1 2++C9 p.2.2.1 4++C9 p.2.2.2.1.size 1++p.2.2.2.1++strOfNums (List.replicate (56 - w - p.2.2.2.1.size).toNat 0)
def Cx (p:Pg) (w:Int):ByteArray:=bif Fg p w then Ac1 (F4 p w) w++F4 p w else ⟨#[]⟩
abbrev zPg:Pg:=(0,0,0,⟨#[]⟩,())
def Av4 (b:ByteArray):Pg:=(An b 0,l7 (Ac b 1 3),l7 (Ac b 3 7),Ac b 8 (8 + An b 7),())
def Av5 (s:ByteArray) (w:Int):Pg:=Av4 (Ac s w (nI s.size))
def Bw (s:ByteArray) (w:Int):Pg×Bool:=
 bif nI s.size != 64 then (zPg,false)
 else bif !Ch w 1 8 then (zPg,false)
 else bif decide (An (Ac s w (nI s.size)) 7 > 56 - w) then (zPg,false)
 else bif !((Cx (Av5 s w) w).toList==s.toList) then (zPg,false) else (Av5 s w,true)
def Ox (r:Rt):Bool:=Ch r.2.1 0 1&&Ch r.2.2.1 1 999999000
def Vc (r:Rt) (w:Int):ByteArray:=bif Ox r then Cx (4,r.2.2.2.1,r.1,C9 r.2.1 1++C9 r.2.2.1 4,()) w else ⟨#[]⟩
def Qy (c:Chg):List Int:=bif c.2.2.1 then [1,nI c.1.size]++Ab c.1 else [0,nI c.1.size]++Ab c.1++[nI c.2.1.size]++Ab c.2.1
def Gg (b:List Chg):List Int:=(b.map Qy).flatten
def Ee (b:List Chg):ByteArray:=bif Bb b then strOfNums (Gg b) else ⟨#[]⟩
def Bq (s:ByteArray):ByteArray×ByteArray×Bool:=if (s.size:Int) < 1∨(s.size:Int) < 1 + An s 0 then (⟨#[]⟩,s,false) else (Ac s 1 (1 + An s 0),Ac s (1 + An s 0) (nI s.size),true)
def Ala (strict:Bool) (s:ByteArray):Option (Chg×ByteArray):=
 bif strict&&decide (An s 0 > 1) then none
 else bif !(Bq (Ac s 1 (nI s.size))).2.2 then none
 else bif An s 0==1 then some (((Bq (Ac s 1 (nI s.size))).1,⟨#[]⟩,true,()),(Bq (Ac s 1 (nI s.size))).2.1)
 else bif !(Bq (Bq (Ac s 1 (nI s.size))).2.1).2.2 then none
 else some (((Bq (Ac s 1 (nI s.size))).1,(Bq (Bq (Ac s 1 (nI s.size))).2.1).1,false,()),(Bq (Bq (Ac s 1 (nI s.size))).2.1).2.1)
def P2 (strict:Bool):Nat→List Chg→ByteArray→Option (List Chg×ByteArray)
 | 0,r,s=>some (r,s)
 | f + 1,r,s=>bif decide (s.size > 0)&&decide (r.length≤20) then (match Ala strict s with | none=>none | some (c,t)=>P2 strict f (r++[c]) t) else some (r,s)
def Lo (s:ByteArray):List Chg×Bool:=match P2 true 22 [] s with
 | none=>([],false)
 | some (b,t)=>bif decide (t.size > 0) || !Bb b then ([],false) else (b,true)
def Alb (s:ByteArray):List Chg×Bool:=match P2 false 22 [] s with
 | none=>([],false)
 | some (b,_)=>bif s.size==0 || !((Ee b).toList==s.toList) then ([],false) else (b,true)
def Hw (n:Nat):Nat→ByteArray→List ByteArray
 | 0,s=>[s]
 | f + 1,s=>if s.size > n then Ac s 0 n::Hw n f (Ac s n (nI s.size)) else [s]
def Bj (s:ByteArray) (w:Int):List ByteArray:=Hw (56 - w).toNat s.size s
def Gw (n:Nat) (w:Int):Int:=bif Ch w 1 8 then (if ((n:Int) + (56 - w) - 1) / (56 - w) > 1 then ((n:Int) + (56 - w) - 1) / (56 - w) else 1) else 0
def Po (life w:Int):Int→List ByteArray→List ByteArray
 | _,[]=>[]
 | k,[p]=>[Cx (2,life,k,p,()) w]
 | k,p::q::r=>Cx (1,life,k,p,()) w::Po life w (k + 1) (q::r)
def Ahz (e:ByteArray) (life first w:Int):List ByteArray:=bif Ch w 1 8&&(Ch life 1 60000&&(decide (1≤first)&&decide (first≤1000000000 - Gw e.size w + 1))) then Po life w first (Bj e w) else []
def opS (d:Dk) (o:Opn):Dk:=bif o.1 then Aps d else bif l6 d.1.length (o.2.1,o.2.2.1,())&&decide (d.2.1.length < 300) then (d.1,d.2.1++[(o.2.1,o.2.2.1,())],()) else d
def Fa (d:Dk) (ops:List Opn) (n:Int):Dk:=bif A0 d then (ops.take n.toNat).foldl opS d else ([],[],())
def Lq (p:Pg):Rt:=(p.2.2.1,An p.2.2.2.1 0,l7 (Ac p.2.2.2.1 1 (nI p.2.2.2.1.size)),p.2.1,())
def Kw (s:ByteArray) (w at':Int) (best:Rt):Rt:=
 bif (Bw s w).2&&((Bw s w).1.1==4)&&decide ((Bw s w).1.2.2.2.1.size=5)&&((Bw s w).1.2.2.1 % 2==at')&&Ox (Lq (Bw s w).1)&&decide ((Bw s w).1.2.2.1 > best.1) then Lq (Bw s w).1 else best
def C7 (d:Dk) (w:Int):Rt:=bif A0 d&&Ch w 1 8 then Kw (Ahy d 1) w 1 (Kw (Ahy d 0) w 0 (0,0,1,0,())) else (0,0,0,0,())
def A51 (p:Pr2):Chg:=(p.1,p.2.1,false,())
def Pp (i:Nat) (p:Pr2) (r:List (List Chg)×Bool×List Chg):List (List Chg)×Bool×List Chg:=bif i % 20==0 then (Wf r.2.1 r.1 r.2.2,true,[A51 p]) else (r.1,r.2.1,r.2.2++[A51 p])
def Alc (i:Nat) (l:List Pr2) (r:List (List Chg)×Bool×List Chg):List (List Chg)×Bool×List Chg:=F3 Pp i l r
def Dd (s:Stt):List (List Chg):=bif Aj s then (let r:=Alc 0 s.1 ([],false,[]); Wf r.2.1 r.1 r.2.2) else []
end Go.Proofs.YtfkefgbihlfjmaaGreat.V

