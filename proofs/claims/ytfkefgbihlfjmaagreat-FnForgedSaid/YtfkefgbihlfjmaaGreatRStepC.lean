/- One operation, as the evaluator tells it: what must hold, the value, the state. No condition. -/
import Derived.Test.YtfkefgbihlfjmaaGreatRMap
import Derived.BigCall
namespace Go.Proofs.YtfkefgbihlfjmaaGreat.R
open Go Go.RowKit
set_option linter.unusedVariables false
set_option linter.unusedSimpArgs false
def La (P:Program) (s:St) (T:TypeId) (x y:Operand):Option (List Bool×Lf):=
 match P.underlying T with
 | some (.slice e)=>match P.info? e,(s.leaf x).bind s.sl,s.conc y with
  | some i,some (.rd t xs),some (.int _ n)=>if i.size=t.sz then some ([decide (0≤n),decide (n < (xs.length:Int))],.ep t xs n.toNat 0) else none
  | some i,some (.own id t xs),some (.int _ n)=>if i.size=t.sz then some ([decide (0≤n),decide (n < (xs.length:Int))],.rp id n.toNat 0) else none
  | _,_,_=>none
 | _=>none
def Wp (P:Program) (s:St) (nid:Nat) (T:TypeId) (x y:Operand):Option (List Bool×Lf×St):=
 match s.res nid,Ab8 P T,s.conc x,s.conc y with
 | .unborn,some el,some (.int _ k),some (.int _ c)=>match s.parse el.t el.z with
   | some (x0,[])=>some ([decide (k=c),decide (0≤k),decide (k.toNat * el.bytes≤140737488355328)],.row nid,s.setRes nid (.row el.e el.t (List.replicate k.toNat x0)))
   | _=>none
 | _,_,_,_=>none
def Ae3 (P:Program) (s:St) (nid:Nat) (T:TypeId) (x y:Operand):Option (List Bool×Lf×St):=
 match s.res nid,Ab8 P T,s.leaf x,s.leaf y with
 | .unborn,some el,some lx,some ly=>(U1 s el lx).bind fun p=>(Td s el.t ly).bind fun ys=>
   some ([decide ((p.2.length + List.length ys) * el.bytes≤140737488355328)],.row nid,(Fe s p.1).setRes nid (.row el.e el.t (p.2++ys)))
 | _,_,_,_=>none
def Wq (P:Program) (s:St) (nid:Nat) (T U:TypeId) (x y:Operand):Option (List Bool×Lf×St):=
 match s.res nid,P.underlying T,P.underlying U,s.leaf x,s.conc y with
 | .unborn,some (.slice e),some .string,some lx,some (.string q)=>match P.info? e,Wh P e with
  | some i,some z=>if i.size=1 then (if i.bytes=1 then (match z with
   | [.c (.int .u8 0)]=>(U1 s ⟨e,.int .u8,z,1⟩ lx).bind fun p=>
    some ([decide (p.2.length + q.size≤140737488355328)],.row nid,(Fe s p.1).setRes nid (.row e (.int .u8) ((show List Int from p.2)++Ab q)))
   | _=>none) else none) else none
  | _,_=>none
 | _,_,_,_,_=>none
def Akk (P:Program) (s:St) (T:TypeId) (x:Operand) (lo hi:Option Operand):Option (List Bool×Lf×St):=
 match P.underlying T with
 | some (.slice e)=>match P.info? e,s.leaf x with
  | some i,some l=>match (s.frz [l]).sl l with
   | some (.rd t xs)=>if i.size=t.sz then
     (match (match lo with | some y=>s.conc y | none=>some (.int .i64 0)),(match hi with | some y=>s.conc y | none=>some (.int .i64 (List.length xs))) with
     | some (.int _ a),some (.int _ b)=>some ([decide (0≤a),decide (a≤b),decide (b≤(List.length xs:Int))],.sl t (List.drop a.toNat (List.take b.toNat xs)),s.frz [l])
     | _,_=>none) else none
   | _=>none
  | _,_=>none
 | _=>none
def Y1 (P:Program) (s:St) (t:TypeId) (x y:Operand):Option (List Bool×St):=
 (s.leaf x).bind fun l=>(s.value y).bind fun v=>match P.info? t with
  | none=>none
  | some i=>if v.ls.length=i.size then match l with
    | .ptr id off=>match s.res id with
     | .box T ls=>if off + v.ls.length≤ls.length then some ([],s.setRes id (.box T (ls.take off++v.ls++ls.drop (off + v.ls.length)))) else none
     | _=>none
    | .rp id i off=>match (s.frz v.ls).res id with
     | .row e t xs=>(let old:=t.leafs (xs.getD i t.zero)
       if off + v.ls.length≤old.length then match (s.frz v.ls).parse t (old.take off++v.ls++old.drop (off + v.ls.length)) with
        | some (x,[])=>some ([decide (i < xs.length)],(s.frz v.ls).setRes id (.row e t (List.set xs i x)))
        | _=>none
       else none)
     | _=>none
    | _=>none
   else none
section
variable {P:Program} {s:St}
theorem Ae4 {T:TypeId} {x y:Operand} {l:Lf} (h:Ml (La P s T x y)=some l):Ta P s T x y=some l:=by
 obtain ⟨cs,e,hc⟩:=Co h
 unfold La at e
 unfold Ta
 split at e
 ·split at e
  ·split at e<;>cases e
   rename_i hs
   obtain ⟨h0,hc⟩:=Bc hc
   obtain ⟨h1,_⟩:=Bc hc
   simp only [*,if_true]
  ·split at e<;>cases e
   rename_i hs
   obtain ⟨h0,hc⟩:=Bc hc
   obtain ⟨h1,_⟩:=Bc hc
   simp only [*,if_true]
  ·cases e
 ·cases e
theorem Ae5 {nid:Nat} {T:TypeId} {x y:Operand} {l:Lf×St} (h:Ml (Wp P s nid T x y)=some l):Tc P s nid T x y=some l:=by
 obtain ⟨cs,e,hc⟩:=Co h
 unfold Wp at e
 unfold Tc
 split at e
 ·split at e<;>cases e
  rename_i hp
  obtain ⟨h0,hc⟩:=Bc hc
  obtain ⟨h1,hc⟩:=Bc hc
  obtain ⟨h2,_⟩:=Bc hc
  subst h0
  simp only [*,if_true]
 ·cases e
theorem Ann {nid:Nat} {T:TypeId} {x y:Operand} {l:Lf×St} (h:Ml (Ae3 P s nid T x y)=some l):Ab9 P s nid T x y=some l:=by
 obtain ⟨cs,e,hc⟩:=Co h
 unfold Ae3 at e
 unfold Ab9
 split at e
 ·obtain ⟨p,e1,e⟩:=Option.bind_eq_some_iff.1 e
  obtain ⟨ys,e2,e⟩:=Option.bind_eq_some_iff.1 e
  cases e
  obtain ⟨h0,hc⟩:=Bc hc
  simp only [*,Option.bind_some,if_true]
 ·cases e
theorem Ae6 {nid:Nat} {T U:TypeId} {x y:Operand} {l:Lf×St} (h:Ml (Wq P s nid T U x y)=some l):Te P s nid T U x y=some l:=by
 obtain ⟨cs,e,hc⟩:=Co h
 unfold Wq at e
 unfold Te
 split at e
 ·split at e
  ·split at e
   ·split at e
    ·split at e
     ·obtain ⟨p,e1,e⟩:=Option.bind_eq_some_iff.1 e
      cases e
      obtain ⟨h0,hc⟩:=Bc hc
      simp only [*,if_true,Option.bind_some]
     ·cases e
    ·cases e
   ·cases e
  ·cases e
 ·cases e
theorem Aq1 {T:TypeId} {x:Operand} {lo hi:Option Operand} {l:Lf×St} (h:Ml (Akk P s T x lo hi)=some l):Ajc P s T x lo hi=some l:=by
 obtain ⟨cs,e,hc⟩:=Co h
 unfold Akk at e
 unfold Ajc
 split at e
 ·rename_i el hU
  split at e
  ·rename_i i l0 hi0 hl0
   split at e
   ·rename_i t xs hsl
    split at e
    ·rename_i hsz
     split at e
     ·rename_i ka p kb q h1 h2
      cases e
      obtain ⟨c0,hc⟩:=Bc hc
      obtain ⟨c1,hc⟩:=Bc hc
      obtain ⟨c2,_⟩:=Bc hc
      cases lo<;>cases hi<;>simp only at h1 h2 ⊢<;>(try simp only [hU,hi0,hl0,hsl,hsz,if_true,h1,h2])<;>first | (rw [if_pos c0,if_pos c1,if_pos c2]; done) | (cases h1; cases h2; rw [if_pos c0,if_pos c1,if_pos c2]; done) | (cases h1; rw [if_pos c0,if_pos c1,if_pos c2]; done) | (cases h2; rw [if_pos c0,if_pos c1,if_pos c2]; done)
     ·cases e
    ·cases e
   ·cases e
  ·cases e
 ·cases e
theorem Aq2 {t:TypeId} {x y:Operand} {s':St} (h:Ml (Y1 P s t x y)=some s'):Ajb P s t x y=some s':=by
 obtain ⟨cs,e,hc⟩:=Co h
 unfold Y1 at e
 unfold Ajb
 obtain ⟨l,e1,e⟩:=Option.bind_eq_some_iff.1 e
 obtain ⟨v,e2,e⟩:=Option.bind_eq_some_iff.1 e
 simp only [e1,e2,Option.bind_some]
 split at e
 ·cases e
 ·rename_i i hi
  simp only [hi]
  split at e
  ·rename_i hsz
   simp only [hsz,if_true] at e ⊢
   split at e
   ·rename_i id off
    split at e
    ·rename_i T ls hr
     simp only [hr]
     split at e<;>cases e
     rename_i hle
     simp only [hle,if_true]
    ·cases e
   ·rename_i id k off
    split at e
    ·rename_i e0 t0 xs hr
     simp only [hr]
     split at e
     ·rename_i hle
      split at e
      ·rename_i z hp
       cases e
       obtain ⟨h0,_⟩:=Bc hc
       simp only [h0,if_true,hle,hp]
      ·cases e
     ·cases e
    ·cases e
   ·cases e
  ·cases e
end
end Go.Proofs.YtfkefgbihlfjmaaGreat.R

