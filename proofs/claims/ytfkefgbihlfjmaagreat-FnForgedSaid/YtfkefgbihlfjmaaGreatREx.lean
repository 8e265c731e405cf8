/- The evaluator's operations on texts, records compared, and division. No condition. -/
import Derived.Test.YtfkefgbihlfjmaaGreatRCall
import Derived.Laws.Concat
import Derived.Laws.StructEq
import Derived.Laws.Strings3
import Derived.Laws.DeepStrings4
import Derived.Laws.Slices
import Derived.Laws.IdiomStrings
namespace Go.Proofs.YtfkefgbihlfjmaaGreat.R
open Go Go.RowKit
set_option linter.unusedVariables false
set_option linter.unusedSimpArgs false
def P1:List Bool→Bool
 | []=>true
 | c::r=>c&&P1 r
def Ml {α:Type} (x:Option (List Bool×α)):Option α:=match x with
 | some (cs,r)=>if P1 cs=true then some r else none
 | none=>none
theorem Co {α:Type} {x:Option (List Bool×α)} {r:α} (h:Ml x=some r):∃ cs,x=some (cs,r)∧P1 cs=true:=by
 unfold Ml at h
 split at h
 ·rename_i cs r'
  split at h<;>cases h
  exact ⟨cs,rfl,by assumption⟩
 ·cases h
def An (s:ByteArray) (i:Int):Int:=((s.data.toList.getD i.toNat 0).toNat:Int)
def Ac (s:ByteArray) (i j:Int):ByteArray:=s.extract i.toNat j.toNat
def Aag (P:Program) (s:St) (T:TypeId) (x y:Operand):Option (List Bool×Value):=
 match P.underlying T,s.conc x,s.conc y with
 | some .string,some (.string q),some (.int _ i)=>some ([decide (0≤i),decide (i < (q.size:Int))],.int .u8 (An q i))
 | _,_,_=>none
def Aah (P:Program) (s:St) (T:TypeId) (x:Operand) (lo hi mx:Option Operand):Option (List Bool×Value):=
 match P.underlying T,s.conc x,mx with
 | some .string,some (.string q),none=>match lo,hi with
  | none,none=>some ([],.string q)
  | some l,none=>match s.conc l with
   | some (.int _ i)=>some ([decide (0≤i),decide (i≤(q.size:Int))],.string (Ac q i q.size))
   | _=>none
  | none,some h=>match s.conc h with
   | some (.int _ j)=>some ([decide (0≤j),decide (j≤(q.size:Int))],.string (Ac q 0 j))
   | _=>none
  | some l,some h=>match s.conc l,s.conc h with
   | some (.int _ i),some (.int _ j)=>some ([decide (0≤i),decide (i≤j),decide (j≤(q.size:Int))],.string (Ac q i j))
   | _,_=>none
 | _,_,_=>none
def Ake (s:St) (op:BinOp) (x y:Operand):Option (List Bool×Value):=
 match op,s.conc x,s.conc y with
 | .add,some (.string p),some (.string q)=>some ([decide (p.size + q.size≤9223372036854775807)],.string (p++q))
 | _,_,_=>none
def Asr (s:St) (op:BinOp) (x y:Operand):Option (List Bool×Value):=
 match op,s.conc x,s.conc y with
 | .rem,some (.int k a),some (.int k' b)=>if k=k' then some ([!decide (b=0)],.int k (a.tmod b)) else none
 | .quo,some (.int k a),some (.int k' b)=>if k=k' then some ([!decide (b=0)],.int k (k.wrap (a.tdiv b))) else none
 | .shl,some (.int k a),some (.int _ b)=>some ([decide (0≤b)],.int k (k.wrap (a * 2 ^ min b.toNat k.bits)))
 | _,_,_=>none
def Avi (P:Program):List Field→List Lf→List Lf→Option Bool
 | [],_,_=>some true
 | f :: fs, xs, ys => if f.name = "_" then none else match P.underlying f.type, xs[f.offset]?, ys[f.offset]? with
  | some (.int _),some (.c (.int k a)),some (.c (.int k' b))=>if k=k' then (Avi P fs xs ys).bind fun r=>some (a==b&&r) else none
  | some .bool,some (.c (.bool a)),some (.c (.bool b))=>(Avi P fs xs ys).bind fun r=>some (a==b&&r)
  | some .string,some (.c (.string a)),some (.c (.string b))=>(Avi P fs xs ys).bind fun r=>some (a.toList==b.toList&&r)
  | _,_,_=>none
def Aqt (P:Program) (s:St) (op:BinOp) (T:TypeId) (x y:Operand):Option Value:=
 match P.underlying T,s.value x,s.value y with
 | some (.struct fs),some (.ag xs),some (.ag ys)=>if P.stoodInHeld T=false then (if P.eqGuardType P.depth T=false then (Avi P fs.toList xs ys).bind fun r=>match op with
  | .eql=>some (.bool r)
  | .neq=>some (.bool (!r))
  | _=>none else none) else none
 | _,_,_=>none
section
variable {P:Program} {n B:Nat} {Iq:List Nat} {s:St} {g:Gh} {a:Act} {w:World}
theorem Oq {c:Bool} {r:List Bool} (h:P1 (c::r)=true):c=true∧P1 r=true:=by simpa [P1] using h
theorem Bc {c:Prop} [Decidable c] {r:List Bool} (h:P1 (decide c::r)=true):c∧P1 r=true:=by
 obtain ⟨h1,h2⟩:=Oq h
 exact ⟨of_decide_eq_true h1,h2⟩
theorem Ank (h:B8 n B Iq s g a w) {T:TypeId} {x y:Operand} {v:Value} (e:Ml (Aag P s T x y)=some v):(Instr.index T (a.eval x) (a.eval y)).run P w=.ok v w∧v.oneCell'=true:=by
 obtain ⟨cs,e,hc⟩:=Co e
 unfold Aag at e
 split at e<;>cases e
 rename_i q k i hU hx hy
 obtain ⟨h0,hc⟩:=Bc hc
 obtain ⟨h1,_⟩:=Bc hc
 rw [(Db h hx).1,(Db h hy).1,run_index_string w T q k i hU,dif_pos ⟨h0,h1⟩]
 refine ⟨?_,rfl⟩
 have hlt:i.toNat < q.data.toList.length:=by
  rw [Array.length_toList]
  show i.toNat < q.size
  omega
 unfold An
 rw [List.getD_eq_getElem?_getD,List.getElem?_eq_getElem hlt]
 rfl
theorem Anl (h:B8 n B Iq s g a w) {T:TypeId} {x:Operand} {lo hi mx:Option Operand} {v:Value} (e:Ml (Aah P s T x lo hi mx)=some v):
  (Instr.sliceAt T (a.eval x) (lo.map a.eval) (hi.map a.eval) (mx.map a.eval)).run P w=.ok v w∧v.oneCell'=true:=by
 obtain ⟨cs,e,hc⟩:=Co e
 unfold Aah at e
 split at e
 ·rename_i q hU hx hm
  rw [Option.map_none,run_sliceAt_string _ _ _ _ _ _ hU,(Db h hx).1]
  split at e
  ·cases e
   refine ⟨?_,rfl⟩
   have:q.extract 0 q.size=q:=by
    apply ByteArray.ext
    rw [ByteArray.data_extract]
    exact Array.extract_size
   show (Instr.slice T (.string q) none none none).run P w=_
   rw [Go.run_slice_string_all _ _ _ hU,this]
  ·rename_i l
   split at e<;>cases e
   rename_i k i hl
   obtain ⟨h0,hc⟩:=Bc hc
   obtain ⟨h1,_⟩:=Bc hc
   refine ⟨?_,rfl⟩
   rw [Option.map_some,(Db h hl).1,Option.map_none,run_slice_string_from_if _ _ _ _ _ hU,if_pos ⟨h0,h1⟩]
   rfl
  ·rename_i l
   split at e<;>cases e
   rename_i k j hl
   obtain ⟨h0,hc⟩:=Bc hc
   obtain ⟨h1,_⟩:=Bc hc
   refine ⟨?_,rfl⟩
   rw [Option.map_some,(Db h hl).1,Option.map_none,run_slice_string_to_if _ _ _ _ _ hU,if_pos ⟨h0,h1⟩]
   rfl
  ·rename_i l hh
   split at e<;>cases e
   rename_i k i k' j hl hr
   obtain ⟨h0,hc⟩:=Bc hc
   obtain ⟨h1,hc⟩:=Bc hc
   obtain ⟨h2,_⟩:=Bc hc
   refine ⟨?_,rfl⟩
   rw [Option.map_some,Option.map_some,(Db h hl).1,(Db h hr).1,run_slice_string _ _ _ _ _ _ _ hU h0 h1 h2]
   rfl
 ·cases e
theorem Ass (h:B8 n B Iq s g a w) {op:BinOp} {T:TypeId} {x y:Operand} {v:Value} (e:Ml (Ake s op x y)=some v):
  ((do eqGuard op T x y (a.eval x) (a.eval y); binOp op T (a.eval x) (a.eval y)):Sem Value).run P w=.ok v w∧v.oneCell'=true:=by
 obtain ⟨cs,e,hc⟩:=Co e
 unfold Ake at e
 split at e<;>cases e
 rename_i p q hx hy
 obtain ⟨h0,_⟩:=Bc hc
 rw [(Db h hx).1,(Db h hy).1,eqGuard_add,binOp_string_add]
 refine ⟨?_,rfl⟩
 simp only [Sem.run_bind,Sem.run_pure,Result.andThen_ok]
 exact run_string_add_sum w p q h0
theorem Akf (h:B8 n B Iq s g a w) {op:BinOp} {T:TypeId} {x y:Operand} {v:Value} (e:Ml (Asr s op x y)=some v):
  ((do eqGuard op T x y (a.eval x) (a.eval y); binOp op T (a.eval x) (a.eval y)):Sem Value).run P w=.ok v w∧v.oneCell'=true:=by
 obtain ⟨cs,e,hc⟩:=Co e
 unfold Asr at e
 split at e
 ·split at e<;>cases e
  rename_i k p k' q hx hy hk
  subst hk
  obtain ⟨h0,_⟩:=Oq hc
  have h0:¬ q=0:=by simpa using h0
  rw [(Db h hx).1,(Db h hy).1,eqGuard_rem]
  refine ⟨?_,rfl⟩
  simp [binOp,Op.intDiv,h0]
 ·split at e<;>cases e
  rename_i k p k' q hx hy hk
  subst hk
  obtain ⟨h0,_⟩:=Oq hc
  have h0:¬ q=0:=by simpa using h0
  rw [(Db h hx).1,(Db h hy).1,eqGuard_quo]
  refine ⟨?_,rfl⟩
  simp [binOp,Op.intDiv,h0]
 ·cases e
  rename_i k p k' q hx hy
  obtain ⟨h0,_⟩:=Oq hc
  have h0:¬ q < 0:=by simpa using h0
  rw [(Db h hx).1,(Db h hy).1,eqGuard_shl]
  refine ⟨?_,rfl⟩
  simp [binOp,Op.shift,h0]
 ·cases e
theorem Aw2 {t:TypeId} (hA:Ab5 P t=some false) {cs:Array Value} {off:Nat} {v:Value} (hv:cs[off]?=some v):(part t cs off).run P w=.ok v w:=by
 simp [part,U2 hA w,hv]
theorem Ast:∀ {fs:List Field} {xs ys:List Lf} {r:Bool},Avi P fs xs ys=some r→∀ {cs ds:Array Value},G7 s g w xs cs.toList→G7 s g w ys ds.toList→(Op.eqFields 9999 cs ds fs).run P w=.ok r w
 | [],xs,ys,r,e,cs,ds,_,_=>by cases e; rfl
 | f::fs,xs,ys,r,e,cs,ds,hx,hy=>by
  unfold Avi at e
  split at e
  ·cases e
  ·rename_i hn
   have fin:∀ {u v:Value} {q:Bool},Ab5 P f.type=some false→cs[f.offset]?=some u→ds[f.offset]?=some v→(Op.equalIn 9999 f.type u v).run P w=.ok q w→
     ((Avi P fs xs ys).bind fun r=>some (q&&r))=some r→(Op.eqFields 9999 cs ds (f::fs)).run P w=.ok r w:=by
    intro u v q hA h1 h2 h3 h4
    obtain ⟨r',e1,e2⟩:=Option.bind_eq_some_iff.1 h4
    cases e2
    have ih:=Ast e1 hx hy
    simp only [Op.eqFields,ne_eq,hn,not_false_eq_true,if_true,Sem.run_bind,Aw2 hA h1,Aw2 hA h2,Result.andThen_ok,h3]
    cases q
    ·simp
    ·simpa using ih
   have cell:∀ {l:List Lf} {c:Array Value} {u:Value},G7 s g w l c.toList→l[f.offset]?=some (.c u)→c[f.offset]?=some u:=by
    intro l c u hL hl
    obtain ⟨v,e1,e2,_⟩:=hL.get hl
    cases e2
    rw [← Array.getElem?_toList]
    exact e1
   split at e
   ·rename_i k0 k p k' q hU h1 h2
    split at e
    ·rename_i hk
     subst hk
     refine fin (q:=p==q) (by unfold Ab5; rw [hU]) (cell hx h1) (cell hy h2) (run_equalIn_int w 9998 _ _ _ _ _ hU) e
    ·cases e
   ·rename_i p q hU h1 h2
    exact fin (q:=p==q) (by unfold Ab5; rw [hU]) (cell hx h1) (cell hy h2) (run_equalIn_bool' w 9998 _ _ _ hU) e
   ·rename_i p q hU h1 h2
    exact fin (q:=p.toList==q.toList) (by unfold Ab5; rw [hU]) (cell hx h1) (cell hy h2) (run_equalIn_string w 9998 _ _ _ hU) e
   ·cases e
theorem Ao1 (h:B8 n B Iq s g a w) {op:BinOp} {T:TypeId} {x y:Operand} {v:Value} (e:Aqt P s op T x y=some v):
  ((do eqGuard op T x y (a.eval x) (a.eval y); binOp op T (a.eval x) (a.eval y)):Sem Value).run P w=.ok v w∧v.oneCell'=true:=by
 unfold Aqt at e
 split at e
 ·rename_i fs xs ys hU hx hy
  split at e
  ·rename_i hp
   split at e
   ·rename_i hm
    obtain ⟨r,e1,e⟩:=Option.bind_eq_some_iff.1 e
    obtain ⟨cs,hcs,hX⟩:=Wj h hx
    obtain ⟨ds,hds,hY⟩:=Wj h hy
    have hf:P.fieldsOf T=fs:=by simp [Program.fieldsOf,hU]
    have hrun:=Ast e1 hX hY
    have heq:(Op.equalIn 10000 T (.agg cs) (.agg ds)).run P w=.ok r w:=by
     rw [run_equalIn_agg w 9999 T cs ds (by rw [hf]; exact hU) hp,hf]
     exact hrun
    rw [hcs,hds]
    simp only [Sem.run_bind,run_eqGuard_agg w _ _ _ _ _ _ hm,Result.andThen_ok]
    split at e<;>cases e
    ·exact ⟨by rw [run_eql_struct,heq]; rfl,rfl⟩
    ·exact ⟨by rw [run_neq_struct,heq]; rfl,rfl⟩
   ·cases e
  ·cases e
 ·cases e
theorem A0e {w:World} {S:Nat→Prop} (q:ByteArray):H8 w S tMk (Au7 (Ab q)) (byteCells q):=by
 obtain ⟨h1,h2⟩:=H8.bytes (w:=w) (S:=S) q
 refine ⟨?_,fun i x hx=>?_⟩
 ·rw [h1]
  show (Ab q).length * 1=(Au7 (Ab q)).length * 1
  simp [Au7]
 ·have hx':((Ab q).map fun x=>(x,()))[i]?=some x:=hx
  rw [List.getElem?_map] at hx'
  cases hq:(Ab q)[i]? with
  | none=>rw [hq] at hx'; cases hx'
  | some y=>
   rw [hq] at hx'
   cases hx'
   have:=h2 i y hq
   exact ⟨_,[],(List.append_nil _).symm,this,rfl⟩
theorem Anm (h:B8 n B Iq s g a w) {nid:Nat} {src dst:TypeId} {x:Operand} {l:Lf} {s':St} (e:Ml (Aaa P s nid src dst x)=some (l,s')):
  ∃ u w' g',(convert src dst (a.eval x)).run P w=.ok u w'∧Go B Iq s g w s' g' w'∧B8 n B Iq s' g' a w'∧Dq s' g' w' l u∧u.oneCell'=true:=by
 obtain ⟨cs,e,hc⟩:=Co e
 unfold Aaa at e
 split at e
 ·rename_i el q hf hU hD hq
  split at e
  ·rename_i hE
   cases e
   obtain ⟨hc,_⟩:=Bc hc
   have hlen:(Au7 (Ab q)).length=q.size:=by simp [Au7,Ab]
   have hge:=grownCap_ge w q.size 0 el
   have hcm:=grownCap_le_maxLen w q.size 0 el (by simp only [maxLen]; omega)
   have hsz:(bytesRow q (grownCap w q.size 0 el)).size=grownCap w q.size 0 el:=by
    unfold bytesRow
    simp
    omega
   have hrun:=run_bytes_of_string (P:=P) w src dst el q hU hD hE
   rw [hsz] at hrun
   have hg:w.grownBy (w.drew.alloc (.cells (bytesRow q (grownCap w q.size 0 el)) el (grownCap w q.size 0 el,grownCap w q.size 0 el + 1))) (Value.ownBlock (.slice none 0 0)):=
    ⟨rfl,rfl,rfl,by simp,fun j hj _=>heap_alloc_old w.drew _ j hj⟩
   have hown:M7 (w.drew.alloc (.cells (bytesRow q (grownCap w q.size 0 el)) el (grownCap w q.size 0 el,grownCap w q.size 0 el + 1))) tMk 0 el (Ty.sz tMk) (.slice (some ⟨w.heap.size,0,none⟩) q.size (grownCap w q.size 0 el)) (Au7 (Ab q)).length (byteCells q):=by
    rw [hlen]
    refine ⟨by simp [byteCells,Ty.sz],.inr ⟨w.heap.size,grownCap w q.size 0 el,_,rfl,Nat.zero_le _,?_,hge,hcm,by rw [hsz]; exact (Nat.mul_one _).symm,?_⟩⟩
    ·have:Au6 tMk (grownCap w q.size 0 el * Ty.sz tMk)=(grownCap w q.size 0 el,grownCap w q.size 0 el + 1):=by
      show (grownCap w q.size 0 el * 1,grownCap w q.size 0 el * 1 + 1)=_
      rw [Nat.mul_one]
     rw [this]
     exact heap_alloc_new w.drew _
    ·show (bytesRow q (grownCap w q.size 0 el)).toList.take (q.size * 1)=byteCells q
     rw [Nat.mul_one]
     unfold bytesRow byteCells
     rw [Array.toList_append,List.take_append_of_le_length (by simp)]
     rw [List.take_of_length_le (by simp)]
     simp
   obtain ⟨m1,m2,m3,m4⟩:=h.grow (o:=none) hf (v:=.slice none 0 0) (v':=.slice (some ⟨w.heap.size,0,none⟩) q.size (grownCap w q.size 0 el)) (fun id q=>by cases q) (fun _=>rfl) hg (.inr rfl) (Acb hown) hown (fun _=>A0e q)
   refine ⟨_,_,_,?_,⟨m4,m1,m2,rfl⟩,m3,?_,g8 hown⟩
   ·rw [(Db h hq).1]
    exact hrun
   ·simp only [Dq,Ao]
    simp [Gh.mv]
  ·cases e
 ·cases e
end
end Go.Proofs.YtfkefgbihlfjmaaGreat.R

