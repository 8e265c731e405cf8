/- A builder's copyCheck and String, from the library's contracts. No condition. -/
import Derived.Test.YtfkefgbihlfjmaaGreatRRow
import Derived.Shelf.Strings.BuilderK
import Derived.Shelf.Strings.Repeat
namespace Go.Proofs.YtfkefgbihlfjmaaGreat.R
open Go Go.RowKit Go.Proofs Go.Shelf
set_option linter.unusedVariables false
set_option linter.unusedSimpArgs false
variable {P:Program} {ρ:Ren}
theorem Av2 {w:World} {b j:Nat} {cs:Array Value} {T:TypeId} (h:w.heap[b]?=some (.cells cs T (0,0))):w.frozen? ⟨b,j,none⟩=false:=Lib.frozen_of_heap h j
theorem Ari {w:World} {b:Nat} {v0 v1 u:Value} {T:TypeId} (h:w.heap[b]?=some (.cells #[v0,v1] T (0,0))):(w.setCell ⟨b,0,none⟩ u).heap[b]?=some (.cells #[u,v1] T (0,0))∧∀ k,k≠b→(w.setCell ⟨b,0,none⟩ u).heap[k]?=w.heap[k]?:=by
 have hlt:=(Array.getElem?_eq_some_iff.1 h).1
 have h2:=(Array.getElem?_eq_some_iff.1 h).2
 constructor
 ·simp [World.setCell,Array.getElem?_modify,h]
 ·intro k hk
  simp [World.setCell,Array.getElem?_modify,Ne.symm hk]
theorem A6j (L:Lays.n240 P ρ) (X:Builder.X72 P ρ):A4v P (ρ.t 72) (ρ.f 240):=by
 intro w b v
 constructor
 ·intro h
  have c0:w.cell? ⟨b,0,none⟩=some (.pointer none):=by rw [Lib.cell_of_heap h]; rfl
  refine (Any.Builder_copyCheck_fresh L X b w c0 (by simp [World.shape?,h]) (Av2 h)).mono ?_
  rintro e w' ⟨rfl,rfl⟩
  obtain ⟨h1,h2⟩:=Ari (u:=.pointer (some ⟨b,0,none⟩)) h
  refine ⟨rfl,⟨rfl,rfl,rfl,by simp [World.setCell],fun k _ hk=>h2 k (by simpa using hk)⟩,h1⟩
 ·intro h
  have c0:w.cell? ⟨b,0,none⟩=some (.pointer (some ⟨b,0,none⟩)):=by rw [Lib.cell_of_heap h]; rfl
  refine (Any.Builder_copyCheck_used L X b w c0).mono ?_
  rintro e w' ⟨rfl,rfl⟩
  exact ⟨rfl,Jr.refl _ _⟩
theorem W0 {l:List Nat} (w:World):Jr l w w.drew:=⟨rfl,rfl,rfl,Nat.le_refl _,fun _ _ _=>rfl⟩
theorem Arj {w w':World} {g n:Nat} (h:Jr [g] w w'):Jr [g] w (w'.freeze ⟨g,0,none⟩ n):=by
 by_cases hn:n=0
 ·subst hn; exact h
 ·refine h.trans ⟨?_,?_,?_,?_,fun k _ hk=>?_⟩
  ·simp [World.freeze,hn]
  ·simp [World.freeze,hn]
  ·simp [World.freeze,hn]
  ·simp [World.freeze,hn]
  ·have:g≠k:=fun e=>hk (by simp [e])
   simp [World.freeze,hn,Array.getElem?_modify,this]
theorem Atq {l:List Nat} {w w':World} (h:Jr l w w') (o:Obj):Jr l w (w'.alloc o):=by
 refine h.trans ⟨rfl,rfl,rfl,Nat.le_of_lt (by show w'.heap.size < (w'.heap.push o).size; simp),fun k hk _=>Lib.alloc_old w' o k hk⟩
set_option maxHeartbeats 2000000 in
set_option maxRecDepth 100000 in
theorem A6k (L:Lays.n169 P ρ) (X:Builder.Extra P ρ):A4w P (ρ.t 72) (ρ.t 5) (ρ.f 169):=by
 intro w b p v xs cs hby hbk hown hrep hne
 have hcm0:∀ (j:Nat) (x:Int),xs[j]?=some x→cs[j]?=some (.int .u8 x):=by
  intro j x hx
  have:=hrep.2 j x hx
  have h1:(cs.drop (j * 1)).take 1=[Value.int .u8 x]:=this
  rw [Nat.mul_one] at h1
  have h2:(cs.drop j)[0]?=some (.int .u8 x):=by
   have:=congrArg (fun l=>l[0]?) h1
   simpa using this
  simpa using h2
 have mixed:=L.mixed
 have t72:=L.t72; have a72:=L.a72; have z72:=L.z72; have v72:=L.v72; have u72:=run_underlying L.t72
 have t70:=L.t70; have a70:=L.a70; have z70:=L.z70; have v70:=L.v70; have u70:=run_underlying L.t70
 have t37:=L.t37; have a37:=L.a37; have z37:=L.z37; have v37:=L.v37; have u37:=run_underlying L.t37
 have t127:=L.t127; have a127:=L.a127; have z127:=L.z127; have v127:=L.v127; have u127:=run_underlying L.t127
 have t3:=L.t3; have a3:=L.a3; have z3:=L.z3; have v3:=L.v3; have u3:=run_underlying L.t3
 have t9:=L.t9; have a9:=L.a9; have z9:=L.z9; have v9:=L.v9; have u9:=run_underlying L.t9
 have t5:=X.t5; have a5:=X.a5; have z5:=X.z5; have v5:=X.v5; have u5:=run_underlying X.t5
 have hUS:=Any.unsafeString_none L X
 rcases hown.2 with ⟨rfl,hz⟩ | ⟨g,cap,cur,rfl,_,hg,hnc,hcm,hcs,htake⟩
 ·have hx0:xs=[]:=List.eq_nil_of_length_eq_zero hz
  subst hx0
  have c1:w.drew.cell? ⟨b,1,none⟩=some (.slice none 0 0):=by
   have:w.drew.heap[b]?=some (.cells #[p,.slice none 0 0] (ρ.t 72) (0,0)):=hbk
   rw [Lib.cell_of_heap this]; rfl
  have hSD:(Builtin.unsafeSliceData_ #[(ρ.t 37)] (ρ.t 127) #[.slice none 0 0]).run P w.drew=.ok (.pointer none) w.drew:=rfl
  go_enter L.f169,Body.n169_ntmps ρ
  go_wp2
  go_region_o
  all_goals (go_wp2; go_ret; exact ⟨rfl,W0 w⟩)
 ·by_cases h0:xs=[]
  ·subst h0
   by_cases hc0:cap=0
   ·subst hc0
    have hlt:b < w.heap.size:=(Array.getElem?_eq_some_iff.1 hbk).1
    have c1:w.drew.cell? ⟨b,1,none⟩=some (.slice (some ⟨g,0,none⟩) 0 0):=by
     have:w.drew.heap[b]?=some (.cells #[p,.slice (some ⟨g,0,none⟩) 0 0] (ρ.t 72) (0,0)):=hbk
     rw [Lib.cell_of_heap this]; rfl
    have hSD:(Builtin.unsafeSliceData_ #[(ρ.t 37)] (ρ.t 127) #[.slice (some ⟨g,0,none⟩) 0 0]).run P w.drew=.ok (.pointer (some ⟨w.drew.heap.size,0,none⟩)) (w.drew.alloc (.view ⟨g,0,none⟩ (ρ.t 5))):=
     Lib.run_unsafeSliceData_zero w.drew _ _ (ρ.t 5) L.t127 ⟨g,0,none⟩ 0 ((ρ.t 5),cur.size) (by have hg':w.drew.heap[g]?=some (.cells cur (ρ.t 5) (0,0)):=hg; simp [World.shape?,hg'])
    have c2:(w.drew.alloc (.view ⟨g,0,none⟩ (ρ.t 5))).cell? ⟨b,1,none⟩=some (.slice (some ⟨g,0,none⟩) 0 0):=by
     have:(w.drew.alloc (.view ⟨g,0,none⟩ (ρ.t 5))).heap[b]?=_:=(Lib.alloc_old w.drew _ b hlt).trans hbk
     rw [Lib.cell_of_heap this]; rfl
    have c3:(w.alloc (.view ⟨g,0,none⟩ (ρ.t 5))).drew.cell? ⟨b,1,none⟩=some (.slice (some ⟨g,0,none⟩) 0 0):=c2
    have c0:w.cell? ⟨b,1,none⟩=some (.slice (some ⟨g,0,none⟩) 0 0):=c1
    go_enter L.f169,Body.n169_ntmps ρ
    go_wp2
    go_region_o
    all_goals (go_wp2; go_ret; exact ⟨rfl,Atq (W0 w) _⟩)
   ·have c1:w.drew.cell? ⟨b,1,none⟩=some (.slice (some ⟨g,0,none⟩) 0 cap):=by
     have:w.drew.heap[b]?=some (.cells #[p,.slice (some ⟨g,0,none⟩) 0 cap] (ρ.t 72) (0,0)):=hbk
     rw [Lib.cell_of_heap this]; rfl
    have hSD:(Builtin.unsafeSliceData_ #[(ρ.t 37)] (ρ.t 127) #[.slice (some ⟨g,0,none⟩) 0 cap]).run P w.drew=.ok (.pointer (some ⟨g,0,none⟩)) w.drew:=
     Lib.run_unsafeSliceData_row _ _ _ _ _ _ hc0
    clear hc0
    go_enter L.f169,Body.n169_ntmps ρ
    go_wp2
    go_region_o
    all_goals (go_wp2; go_ret; exact ⟨rfl,W0 w⟩)
  ·generalize hl:(xs.map fun n=>UInt8.ofNat n.toNat)=l
   have hlen:l.length=xs.length:=by rw [← hl]; simp
   have hl0:l≠[]:=by rw [← hl]; simpa using h0
   have hlp:0 < l.length:=List.length_pos_iff.2 hl0
   have hstr:strOfNums xs=⟨l.toArray⟩:=by unfold strOfNums; rw [hl]
   rw [hstr]
   rw [← hlen] at hown hnc htake hbk
   rw [← hlen]
   have c1:w.drew.cell? ⟨b,1,none⟩=some (.slice (some ⟨g,0,none⟩) l.length cap):=by
    have:w.drew.heap[b]?=some (.cells #[p,.slice (some ⟨g,0,none⟩) l.length cap] (ρ.t 72) (0,0)):=hbk
    rw [Lib.cell_of_heap this]; rfl
   have hSD:(Builtin.unsafeSliceData_ #[(ρ.t 37)] (ρ.t 127) #[.slice (some ⟨g,0,none⟩) l.length cap]).run P w.drew=.ok (.pointer (some ⟨g,0,none⟩)) w.drew:=
    Lib.run_unsafeSliceData_row _ _ _ _ _ _ (by omega)
   have hUS:(Builtin.unsafeString_ #[(ρ.t 127),(ρ.t 3)] (ρ.t 9) #[.pointer (some ⟨g,0,none⟩),.int .i64 l.length]).run P w.drew=.ok (.string ⟨l.toArray⟩) (w.drew.freeze ⟨g,0,none⟩ l.length):=by
    refine Lib.run_unsafeString_row w.drew (ρ.t 127) (ρ.t 3) (ρ.t 9) (ρ.t 5) L.t127 X.cellsByte g cur.size (by have hg':w.drew.heap[g]?=some (.cells cur (ρ.t 5) (0,0)):=hg; simp [World.shape?,hg']) l hl0 (by omega) (by unfold maxLen at hcm; omega) ?_
    intro j x hx
    rw [← hl,List.getElem?_map] at hx
    obtain ⟨n,hn,rfl⟩:=Option.map_eq_some_iff.1 hx
    have hb:=List.all_eq_true.1 hby n (List.mem_of_getElem? hn)
    simp only [Bool.and_eq_true,decide_eq_true_eq] at hb
    have hc:=hcm0 j n hn
    have hj:j < l.length:=by rw [hlen]; exact (List.getElem?_eq_some_iff.1 hn).1
    rw [← htake,List.getElem?_take,if_pos (by omega)] at hc
    have hg':w.drew.heap[g]?=some (.cells cur (ρ.t 5) (0,0)):=hg
    rw [Ajy,Lib.cell_of_heap hg']
    have hn2:((UInt8.ofNat n.toNat).toNat:Int)=n:=by
     simp
     omega
    rw [hn2]
    simpa using hc
   rw [hlen] at hSD hUS c1 hbk
   clear hlen hl htake
   go_enter L.f169,Body.n169_ntmps ρ
   go_wp2
   go_region_o
   all_goals (go_wp2; go_ret; exact ⟨rfl,Arj (W0 w)⟩)
def Aas (s:ByteArray) (c:Int):Option ByteArray:=if 0≤c∧c≤9223372036854775807∧s.size * c.toNat≤140737488355328 then some ⟨(Lib.repeatL s.data.toList c.toNat).toArray⟩ else none
theorem Below.keeps {w w':World} (h:Below w.heap.size w w'):Jr [] w w':=⟨h.os,h.tape,h.output,h.size,fun k hk _=>h.block k hk⟩
theorem Ay8 {f:FuncId} {s:ByteArray→Int→Option ByteArray} (H:∀ a c r,s a c=some r→∀ w,Calls P f #[.string a,.int .i64 c] w fun e w'=>e=.returned (.string r)∧Below w.heap.size w w'):
  Yz P f ⟨[.rd .str,.rd (.int .i64)],[none,none],[.rd .str],[none]⟩ (fun x=>(s x.1 x.2.1).bind fun r=>some ((r,()),())):=by
 rintro ⟨a,c,⟨⟩⟩ r hr w S us args ⟨c1,c2,e1,h1,c3,c4,e2,h2,h3⟩ hsh hown
 obtain ⟨q,hq,hr⟩:=Option.bind_eq_some_iff.1 hr
 cases hr
 have h1':c1=[.string a]:=h1
 have h2':c3=[.int .i64 c]:=h2
 have h3':c4=[]:=h3
 subst h1' h2' h3' e2 e1
 obtain ⟨u,us',cs',q1,q2,q3,u2,us2,cs2,q4,q5,q6,q7,q8⟩:=hsh
 subst q7 q8 q4 q1
 simp only [List.cons_append,List.nil_append,List.cons.injEq] at q2 q5
 obtain ⟨rfl,q2⟩:=q2
 rw [q5] at q2
 simp only [List.cons.injEq,and_true] at q2
 subst q2
 refine Calls.mono (H a c q hq w) fun e w'=>?_
 rintro ⟨rfl,hb⟩
 refine ⟨[.string q],[.string q],rfl,⟨_,_,_,rfl,rfl,rfl,rfl,rfl⟩,Below.keeps hb,⟨[.string q],[],rfl,rfl,rfl⟩,trivial,?_,?_⟩
 ·exact List.nodup_nil
 ·intro b hb
  cases hb
end Go.Proofs.YtfkefgbihlfjmaaGreat.R

