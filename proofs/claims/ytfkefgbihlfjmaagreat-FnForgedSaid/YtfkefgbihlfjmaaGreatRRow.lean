/- What a law is handed, opened into data, and shut again. No condition. -/
import Derived.Test.YtfkefgbihlfjmaaGreatRRange
import Derived.ChangeArms
import Derived.Carry
import Derived.OpenShut
import Derived.ChangeMaps5
import Derived.SizedLaws
import Derived.ChangeOld
namespace Go.Proofs.YtfkefgbihlfjmaaGreat.R
open Go Go.RowKit Go.WideShapes
set_option linter.unusedVariables false
set_option linter.unusedSimpArgs false
def A27 (f:TypeId→Option Ty):List Field→Nat→Option Ty
 | [],_=>some .unit
 | d::r,off=>if d.offset=off then (f d.type).bind fun a=>(A27 f r (off + a.sz)).bind fun b=>some (.pair a b) else none
def tyG (P:Program):Nat→TypeId→Option Ty
 | 0,_=>none
 | k + 1,t=>match P.underlying t with
  | some (.int i)=>some (.int i)
  | some .bool=>some .bool
  | some .string=>some .str
  | some (.slice e)=>(tyG P k e).bind fun a=>if 0 < a.sz then (if 0 < P.bytesOf e then some (.sl a) else none) else none
  | some (.struct fs)=>(A27 (tyG P k) fs.toList 0).bind fun a=>if P.cellsOf t=a.sz then some a else none
  | _=>none
def o9:(t:Ty)→t.D→Prop
 | .int k,n=>(Lit.int k n).wf=true
 | .bool,_=>True
 | .str,s=>ByteArray.size s≤reachBytes
 | .sl t,xs=>List.length xs≤reachBytes∧∀ (i:Nat) (x:t.D),nth (α:=t.D) xs i=some x→o9 t x
 | .unit,_=>True
 | .pair a b,x=>o9 a x.1∧o9 b x.2
theorem Atp {α:Type} {n:Nat} {f:Fin n→α} {i:Nat} {x:α} (h:nth (List.ofFn f) i=some x):∃ hi:i < n,f ⟨i,hi⟩=x:=by
 unfold nth at h
 rw [List.getElem?_ofFn] at h
 split at h
 ·rename_i hi
  exact ⟨hi,Option.some.inj h⟩
 ·cases h
section
variable {H:Type} {enc:TypeId×Value→H} {P:Program} {w:World} {spare:Nat→Bool} {held:Bool}
theorem Zd {e:TypeId}:∀ {ds:List (DataW H)} {i:Nat} {d:DataW H},ds[i]?=some d→∀ n∈d.weights P e,n∈DataW.weightsAll P e ds
 | [],i,d,h,_,_=>by simp at h
 | d0::r,0,d,h,n,hn=>by
  simp at h
  subst h
  simp only [DataW.weightsAll,List.mem_append]
  exact .inl hn
 | d0::r,i + 1,d,h,n,hn=>by
  simp only [DataW.weightsAll,List.mem_append]
  exact .inr (Zd (i:=i) (by simpa using h) n hn)
theorem A28 {a:Addr} {v:Value} (h:w.cell? a=some v):a.block < w.heap.size:=by
 unfold World.cell? at h
 cases hq:w.heap[a.block]? with
 | none=>rw [hq] at h; simp at h
 | some o=>exact (Array.getElem?_eq_some_iff.1 hq).1
theorem A46:∀ {k:Nat} {T:TypeId} {t:Ty},tyG P k T=some t→∀ {fuel:Nat} {cs:List Value} {x:DataW H×List MemPlace},DataW.trod enc P w 0 spare held fuel T cs=some x→
  (∀ n∈x.1.weights P T,n≤reachBytes)→∃ y:t.D,t.K w (fun _=>True) y cs∧o9 t y:=by
 intro k
 induction k with
 | zero=>intro T t h; cases h
 | succ k ih=>
  intro T t h fuel cs x hx hw
  simp only [tyG] at h
  split at h
  ·rename_i i hU
   cases h
   obtain ⟨n,rfl,rfl,h3⟩:=DataW.trod_int hU hx
   exact ⟨n,rfl,h3⟩
  ·rename_i hU
   cases h
   obtain ⟨b,rfl,rfl⟩:=DataW.trod_bool hU hx
   exact ⟨b,rfl,trivial⟩
  ·rename_i hU
   cases h
   obtain ⟨s,rfl,rfl,h3⟩:=DataW.trod_string hU hx
   refine ⟨s,rfl,?_⟩
   have:=hw s.data.toList.length (by simp [DataW.weights])
   rw [Array.length_toList] at this
   exact this
  ·rename_i e hU
   obtain ⟨a,ha,h2⟩:=Option.bind_eq_some_iff.1 h
   split at h2
   ·rename_i hpos
    split at h2<;>cases h2
    rename_i hby
    rcases DataW.trod_slice hU hx with ⟨rfl,rfl⟩ | ⟨ad,len,cap,elems,rest,n,rfl,rfl,rfl,hb,hl,hc,hlen,hel,_,_⟩
    ·exact ⟨([]:List a.D),⟨none,0,rfl,Nat.le_refl _,fun i y hy=>by simp [nth] at hy⟩,by simp,fun i y hy=>by simp [nth] at hy⟩
    ·have hwl:(elems.length + rest.length) * P.bytesOf e≤reachBytes:=by
      have:=hw ((elems.length + rest.length) * P.bytesOf e) (by simp [DataW.weights,hU])
      simpa using this
     have one:∀ i:Fin len,∃ y:a.D,(∃ cs',cs'.length=a.sz∧a.K w (fun _=>True) y cs'∧ad.block < w.heap.size∧∀ (j:Nat) (u:Value),cs'[j]?=some u→w.cell? (ad.add (i.1 * a.sz + j))=some u)∧o9 a y:=by
      intro i
      have hi:=hel i.1 i.2
      rw [List.getElem?_eq_getElem (by omega)] at hi
      obtain ⟨cs',h1,h2⟩:=Option.bind_eq_some_iff.1 hi
      obtain ⟨y,k1,k2⟩:=ih ha h2 (fun m hm=>hw m (by
       simp only [DataW.weights,hU,List.mem_cons,List.mem_append]
       refine .inr (.inl (Zd (i:=i.1) (d:=(elems[i.1]'(by omega)).1) ?_ m hm))
       rw [List.getElem?_map,List.getElem?_eq_getElem (by omega)]
       rfl))
      have hsz:=Ty.K_len k1
      obtain ⟨_,c2,c3⟩:=World.cells?_some h1
      have hcell:P.cellsOf e=a.sz:=by omega
      have hall:∀ (j:Nat) (u:Value),cs'[j]?=some u→w.cell? (ad.add (i.1 * a.sz + j))=some u:=by
       intro j u hu
       have hj:=(List.getElem?_eq_some_iff.1 hu).1
       have:=c3 j (by omega)
       rw [Ai9,hcell] at this
       rw [this,hu]
      refine ⟨y,⟨cs',hsz,k1,?_,hall⟩,k2⟩
      have h0:cs'[0]?=some (cs'[0]'(by omega)):=List.getElem?_eq_getElem (by omega)
      have:=A28 (hall 0 _ h0)
      rwa [U0] at this
     refine ⟨(List.ofFn fun i=>Classical.choose (one i):List a.D),⟨some ad,cap,by rw [List.length_ofFn],by rw [List.length_ofFn]; exact hl,fun i y hy=>?_⟩,?_,fun i y hy=>?_⟩
     ·obtain ⟨hi,rfl⟩:=Atp hy
      obtain ⟨⟨cs',q1,q2,q3,q4⟩,_⟩:=Classical.choose_spec (one ⟨i,hi⟩)
      exact ⟨ad,rfl,trivial,q3,cs',q1,q2,q4⟩
     ·rw [List.length_ofFn]
      have:elems.length * 1≤(elems.length + rest.length) * P.bytesOf e:=Nat.mul_le_mul (by omega) hby
      omega
     ·obtain ⟨hi,rfl⟩:=Atp hy
      exact (Classical.choose_spec (one ⟨i,hi⟩)).2
   ·cases h2
  ·rename_i fs hU
   obtain ⟨a,ha,h2⟩:=Option.bind_eq_some_iff.1 h
   split at h2<;>cases h2
   rename_i hsz
   obtain ⟨xs,n,rfl,rfl,hcl,hxl,hf⟩:=DataW.trod_struct hU hx
   have hwE:∀ m∈DataW.weightsEach P (fs.toList.map (·.type)) (xs.map (·.1)),m≤reachBytes:=fun m hm=>hw m (by simpa [DataW.weights,hU] using hm)
   have go:∀ (l:List Field) (off:Nat) (b:Ty) (ys:List (DataW H×List MemPlace)),A27 (tyG P k) l off=some b→ys.length=l.length→
     (∀ (i:Nat) (f:Field),l[i]?=some f→DataW.trod enc P w 0 spare held n f.type ((cs.drop f.offset).take (P.cellsOf f.type))=ys[i]?)→
     (∀ m∈DataW.weightsEach P (l.map (·.type)) (ys.map (·.1)),m≤reachBytes)→∃ y:b.D,b.K w (fun _=>True) y ((cs.drop off).take b.sz)∧o9 b y:=by
    intro l
    induction l with
    | nil=>
     intro off b ys hb _ _ _
     cases hb
     exact ⟨(),by show _=[]; simp [Ty.sz],trivial⟩
    | cons f r ihl=>
     intro off b ys hb hlen hall hwts
     simp only [A27] at hb
     split at hb
     ·rename_i hoff
      obtain ⟨b1,hb1,hb⟩:=Option.bind_eq_some_iff.1 hb
      obtain ⟨b2,hb2,hb⟩:=Option.bind_eq_some_iff.1 hb
      cases hb
      cases ys with
      | nil=>simp at hlen
      | cons y0 ys=>
       have h0:=hall 0 f rfl
       simp only [List.getElem?_cons_zero] at h0
       obtain ⟨y1,k1,f1⟩:=ih hb1 h0 (fun m hm=>hwts m (by simp only [List.map_cons,DataW.weightsEach,List.mem_append]; exact .inl hm))
       obtain ⟨y2,k2,f2⟩:=ihl (off + b1.sz) b2 ys hb2 (by simpa using hlen) (fun i f' hi=>by have:=hall (i + 1) f' (by simpa using hi); simpa using this) (fun m hm=>hwts m (by simp only [List.map_cons,DataW.weightsEach,List.mem_append]; exact .inr hm))
       have e1:(cs.drop f.offset).take (P.cellsOf f.type)=(cs.drop off).take b1.sz:=by
        have hl1:=Ty.K_len k1
        rw [hoff] at hl1 ⊢
        rw [List.length_take] at hl1
        rcases Nat.le_total (P.cellsOf f.type) (cs.drop off).length with q | q
        ·rw [Nat.min_eq_left q] at hl1
         rw [hl1]
        ·rw [Nat.min_eq_right q] at hl1
         rw [List.take_of_length_le q,List.take_of_length_le (by omega)]
       rw [e1] at k1
       refine ⟨(y1,y2),⟨(cs.drop off).take b1.sz,(cs.drop (off + b1.sz)).take b2.sz,?_,k1,k2⟩,f1,f2⟩
       show (cs.drop off).take (b1.sz + b2.sz)=_
       rw [List.take_add,List.drop_drop]
     ·cases hb
   obtain ⟨y,k1,k2⟩:=go fs.toList 0 t xs ha (by simpa using hxl) (fun i f hi=>hf i f (by simpa using hi)) hwE
   refine ⟨y,?_,k2⟩
   rw [List.drop_zero,List.take_of_length_le (by omega)] at k1
   exact k1
  ·cases h
def Av1 (P:Program) (T:TypeId):Option Nat:=match P.underlying T with
 | some (.struct _)=>some (P.cellsOf T)
 | _=>none
def rds:List Ty→List Md
 | []=>[]
 | t::r=>.rd t::rds r
def A1e:(ts:List Ty)→Tf (rds ts)→Prop
 | [],_=>True
 | t::r,x=>o9 t x.1∧A1e r x.2
def A47 (P:Program):List TypeId→Option (List Ty)
 | []=>some []
 | T::r=>(tyG P 12 T).bind fun t=>(A47 P r).bind fun l=>some (t::l)
theorem Ac0:∀ (ts:List Ty) (us:List Value),E5 (rds ts) us=[]
 | [],_=>rfl
 | t::r,us=>Ac0 r _
theorem Arh {b0:Nat} {T:TypeId} {t:Ty} (h:tyG P 12 T=some t) {v:Value} (hv:Value.okWide P w .any b0 T v):∃ cs,ShR [Av1 P T] [v] cs∧cs=v.cells.toList:=by
 unfold tyG at h
 unfold Av1
 split at h
 ·rename_i i hU
  obtain ⟨n,rfl⟩:=okWide_int hU hv
  rw [hU]
  exact ⟨_,⟨_,[],[],rfl,rfl,rfl,rfl,rfl⟩,rfl⟩
 ·rename_i hU
  obtain ⟨n,rfl⟩:=okWide_bool hU hv
  rw [hU]
  exact ⟨_,⟨_,[],[],rfl,rfl,rfl,rfl,rfl⟩,rfl⟩
 ·rename_i hU
  obtain ⟨n,rfl⟩:=okWide_string hU hv
  rw [hU]
  exact ⟨_,⟨_,[],[],rfl,rfl,rfl,rfl,rfl⟩,rfl⟩
 ·rename_i e hU
  obtain ⟨a,l,c,rfl⟩:=okWide_slice hU hv
  rw [hU]
  exact ⟨_,⟨_,[],[],rfl,rfl,rfl,rfl,rfl⟩,rfl⟩
 ·rename_i fs hU
  obtain ⟨cs,rfl,hs⟩:=okWide_struct hU hv
  rw [hU]
  exact ⟨cs.toList,⟨cs,[],[],rfl,(List.append_nil _).symm,hs,rfl,rfl⟩,rfl⟩
 ·cases h
theorem A1f {x:Option Nat} {sh:List (Option Nat)} {v:Value} {vs c1 c2:List Value} (h1:ShR [x] [v] c1) (h2:ShR sh vs c2):ShR (x::sh) (v::vs) (c1++c2):=by
 cases x with
 | none=>
  obtain ⟨u,us',cs',e1,e2,e3,e4,e5⟩:=h1
  subst e4 e5
  cases e1
  subst e2
  exact ⟨v,vs,c2,rfl,rfl,e3,h2⟩
 | some k=>
  obtain ⟨c,us',cs',e1,e2,e3,e4,e5⟩:=h1
  subst e4 e5
  cases e1
  subst e2
  exact ⟨c,vs,c2,rfl,by rw [List.append_nil],e3,h2⟩
theorem Apq {b0:Nat}:∀ {Ts:List TypeId} {ts:List Ty},A47 P Ts=some ts→∀ {vs:List Value} {ds:List (DataW H)} {ps:List MemPlace},DataW.TrodAll enc P w 0 spare held Ts vs ds ps→
  (∀ (j:Nat) T v,Ts[j]?=some T→vs[j]?=some v→Value.okWide P w .any b0 T v)→(∀ n∈DataW.weightsEach P Ts ds,n≤reachBytes)→
  ∃ (x:Tf (rds ts)) (us:List Value),HR w (fun _=>True) (rds ts) x us∧ShR (Ts.map (Av1 P)) vs us∧A1e ts x
 | [],ts,h,vs,ds,ps,hT,_,_=>by
  cases h
  obtain ⟨rfl,rfl,rfl⟩:=Go.ChangeShapes.trodAll_nil hT
  exact ⟨(),[],rfl,⟨rfl,rfl⟩,trivial⟩
 | T::Ts,ts,h,vs,ds,ps,hT,hok,hw=>by
  simp only [A47] at h
  obtain ⟨t,h1,h⟩:=Option.bind_eq_some_iff.1 h
  obtain ⟨l,h2,h⟩:=Option.bind_eq_some_iff.1 h
  cases h
  obtain ⟨v,vs',d,ds',p,q,rfl,rfl,rfl,⟨fuel,k1⟩,k2⟩:=Go.ChangeShapes.trodAll_cons hT
  obtain ⟨y,q1,q2⟩:=A46 h1 k1 (fun n hn=>hw n (by simp only [DataW.weightsEach,List.mem_append]; exact .inl hn))
  obtain ⟨x,us,r1,r2,r3⟩:=Apq h2 k2 (fun j T' v' e1 e2=>hok (j + 1) T' v' (by simpa using e1) (by simpa using e2)) (fun n hn=>hw n (by simp only [DataW.weightsEach,List.mem_append]; exact .inr hn))
  obtain ⟨cs,s1,rfl⟩:=Arh h1 (hok 0 T v rfl rfl)
  exact ⟨(y,x),v.cells.toList++us,⟨_,_,rfl,q1,r1⟩,A1f s1 r2,q2,r3⟩
theorem Aha {base:Nat}:∀ {Ts:List TypeId} {vs:List Value} {ds:List (DataW H)} {ps:List MemPlace},DataW.TrodAll enc P w base spare held Ts vs ds ps→ds.length=Ts.length
 | [],vs,ds,ps,h=>by obtain ⟨rfl,rfl,rfl⟩:=Go.ChangeShapes.trodAll_nil h; rfl
 | T::Ts,vs,ds,ps,h=>by
  obtain ⟨v,vs',d,ds',p,q,rfl,rfl,rfl,k1,k2⟩:=Go.ChangeShapes.trodAll_cons h
  simp [Aha k2]
theorem A6i {α:Type} {l:List α} (h:l.length=1):∃ a,l=[a]:=List.length_eq_one_iff.1 h
def Lo (P:Program):List TypeId→Bool
 | []=>true
 | T::r=>P.readableRec T&&(Nat.blt T P.types.size&&Lo P r)
theorem Apr (hl:laidOutB P=true) {W W':World} (hb:Below W.heap.size W W'):∀ {Ts:List TypeId},Lo P Ts=true→∀ {vs:List Value} {ds:List (DataW H)} {ps:List MemPlace},DataW.TrodAll enc P W 0 (fun _=>true) true Ts vs ds ps→
  DataW.TrodAll enc P W' 0 (fun b=>decide (b < W.heap.size)) true Ts vs ds ps
 | [],_,vs,ds,ps,h=>by
  obtain ⟨rfl,rfl,rfl⟩:=Go.ChangeShapes.trodAll_nil h
  exact rfl
 | T::Ts,hr,vs,ds,ps,h=>by
  have hlt:=DataW.TrodAll.lt h
  obtain ⟨v,vs',d,ds',p,q,rfl,rfl,rfl,k1,k2⟩:=Go.ChangeShapes.trodAll_cons h
  simp only [Lo,Bool.and_eq_true] at hr
  exact ⟨p,q,Below.trod hl hr.1 (by simpa using hr.2.1) k1 hb (fun x hx=>hlt x (List.mem_append_left _ hx)),Apr hl hb hr.2.2 k2,rfl⟩
theorem Ay7 {f:FuncId} {ts:List Ty} {psh:List (Option Nat)} {den:Tf (rds ts)→Option (Tf [.rd .bool]×BxD (rds ts))} (hs:Yz P f ⟨rds ts,psh,[.rd .bool],[none]⟩ den)
  {x:Tf (rds ts)} {y:BxD (rds ts)} (hx:den x=some ((true,()),y)) {W:World} {vs us:List Value} (h1:HR W (fun _=>True) (rds ts) x us) (h2:ShR psh vs us):
  Calls P f vs.toArray W fun e W'=>e=.returned (.bool true)∧Below W.heap.size W W':=by
 refine Calls.mono (hs x _ hx W (fun _=>True) us vs h1 h2 ⟨by simp only [Ac0]; exact List.nodup_nil,fun b hb=>by simp only [Ac0] at hb; cases hb⟩) fun e W'=>?_
 rintro ⟨rs,us',rfl,k1,k2,⟨c1,c2,e1,e2,e3⟩,_⟩
 have e2':c1=[.bool true]:=e2
 have e3':c2=[]:=e3
 subst e2' e3'
 obtain ⟨u,us1,cs1,q1,q2,q3,q4,q5⟩:=k1
 subst q4 q5
 rw [e1] at q2
 have:u=.bool true:=by simpa using q2.symm
 subst this
 subst q1
 simp only [Ac0] at k2
 exact ⟨rfl,k2.below⟩
end
end Go.Proofs.YtfkefgbihlfjmaaGreat.R

