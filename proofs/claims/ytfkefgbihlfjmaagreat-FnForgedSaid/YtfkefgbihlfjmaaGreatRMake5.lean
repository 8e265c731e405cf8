/- The evaluator's literal, make, part and bytes as a text are the machine's. No condition. -/
import Derived.Test.YtfkefgbihlfjmaaGreatRMake4
namespace Go.Proofs.YtfkefgbihlfjmaaGreat.R
open Go Go.RowKit
set_option linter.unusedVariables false
set_option linter.unusedSimpArgs false
section
variable {P:Program} {n B:Nat} {Iq:List Nat} {s:St} {g:Gh} {a:Act} {w:World}
theorem B8.newRow (h:B8 n B Iq s g a w) {nid:Nat} (hf:s.res nid=.unborn) {e:TypeId} {t:Ty} (hmk:mkT t=false) {xs:List t.D} {arr:Array Value} (hlen:xs.length≤maxLen) (hsz:arr.size=xs.length * t.sz) (hrep:H8 w (Eu s g) t xs arr.toList):
  B8 n B Iq (s.setRes nid (.row e t xs)) (g.new nid w.heap.size (.slice (some ⟨w.heap.size,0,none⟩) xs.length xs.length)) a (w.alloc (.cells arr e))∧
  (∀ b,Eu s g b→b < w.heap.size→Eu (s.setRes nid (.row e t xs)) (g.new nid w.heap.size (.slice (some ⟨w.heap.size,0,none⟩) xs.length xs.length)) b∧(w.alloc (.cells arr e)).heap[b]?=w.heap[b]?)∧
  Dq (s.setRes nid (.row e t xs)) (g.new nid w.heap.size (.slice (some ⟨w.heap.size,0,none⟩) xs.length xs.length)) (w.alloc (.cells arr e)) (.row nid) (.slice (some ⟨w.heap.size,0,none⟩) xs.length xs.length):=by
 have hS:=g7 h hf (.row e t xs) (.slice (some ⟨w.heap.size,0,none⟩) xs.length xs.length) (.cells arr e)
 refine ⟨h.alloc hf _ _ _ ⟨arr.toList,?_,hrep.keep hS,?_⟩,hS,?_⟩
 ·simp only [Gh.new,A9]
  exact (On hmk).2 (World.ownsRow_lit w arr xs.length (Nat.zero_le _) hlen hsz)
 ·simp only [Gh.new,A9,Value.ownBlock]
 ·simp only [Dq,Ao,Gh.new,A9]
theorem G7.ofGet:∀ {ls:List Lf} {cs:List Value},ls.length=cs.length→(∀ (j:Nat) (l:Lf) (v:Value),ls[j]?=some l→cs[j]?=some v→Dq s g w l v∧v.oneCell'=true)→G7 s g w ls cs
 | [],[],_,_=>trivial
 | [],_::_,h,_=>by simp at h
 | _::_,[],h,_=>by simp at h
 | l::ls,v::cs,h,k=>⟨k 0 l v rfl rfl,G7.ofGet (by simpa using h) (fun j l' v' h1 h2=>k (j + 1) l' v' (by simpa using h1) (by simpa using h2))⟩
theorem Wl (z:List Lf) (k:Nat):(Yy z k).length=k * z.length:=by
 induction k with
 | zero=>simp [Yy]
 | succ k ih=>simp [Yy,ih,Nat.succ_mul]; omega
theorem Ayr (z:List Lf) (hz:0 < z.length):∀ (k j:Nat),j < k * z.length→(Yy z k)[j]?=z[j % z.length]?:=by
 intro k
 induction k with
 | zero=>intro j hj; omega
 | succ k ih=>
  intro j hj
  simp only [Yy]
  by_cases h:j < z.length
  ·rw [List.getElem?_append_left h,Nat.mod_eq_of_lt h]
  ·rw [List.getElem?_append_right (by omega),ih (j - z.length) (by rw [Nat.succ_mul] at hj; omega)]
   congr 1
   exact (Nat.mod_eq_sub_mod (by omega)).symm
theorem A33 {z:List Lf} {cs:Array Value} (hL:G7 s g w z cs.toList) (hz:0 < z.length) (k:Nat):G7 s g w (Yy z k) (madeCells cs (k * z.length)).toList:=by
 have hl:=hL.length
 rw [Array.length_toList] at hl
 refine G7.ofGet (by rw [Wl]; simp [size_madeCells]) (fun j l v h1 h2=>?_)
 have hj:j < k * z.length:=by
  have:=(List.getElem?_eq_some_iff.1 h1).1
  rwa [Wl] at this
 rw [Ayr z hz k j hj] at h1
 obtain ⟨u,k1,k2⟩:=hL.get h1
 have:v=u:=by
  have hm:j % z.length < cs.size:=by rw [hl]; exact Nat.mod_lt _ hz
  rw [Array.getElem?_toList] at h2 k1
  unfold madeCells at h2
  rw [Array.getElem?_map] at h2
  have hr:(Array.range (k * z.length))[j]?=some j:=by simp [hj]
  rw [hr] at h2
  simp only [Option.map_some,Option.some.injEq] at h2
  rw [hl,getElem!_pos cs _ hm] at h2
  rw [Array.getElem?_eq_getElem hm] at k1
  rw [← h2]
  exact Option.some.inj k1
 rw [this]
 exact k2
theorem Aj7 (hr:∀ id,K8 s g w id (s.res id)) {t:Ty}:∀ {k:Nat} {ls:List Lf} {xs:List t.D} {cs:List Value},Ab7 s t k ls=some xs→G7 s g w ls cs→xs.length=k∧H8 w (Eu s g) t xs cs
 | 0,[],xs,cs,e,hL=>by
  cases e
  cases cs with
  | nil=>exact ⟨rfl,by simp,fun i x hx=>by simp at hx⟩
  | cons _ _=>exact hL.elim
 | 0,_::_,xs,cs,e,hL=>by cases e
 | k + 1,ls,xs,cs,e,hL=>by
  simp only [Ab7] at e
  obtain ⟨p,h1,e⟩:=Option.bind_eq_some_iff.1 e
  obtain ⟨r,h2,e⟩:=Option.bind_eq_some_iff.1 e
  cases e
  obtain ⟨k1,k2⟩:=St.parse_K hr (x:=p.1) (r:=p.2) h1 hL
  have hL2:G7 s g w p.2 (cs.drop t.sz):=by rw [k1]; exact hL.drop _
  obtain ⟨m1,m2,m3⟩:=Aj7 hr h2 hL2
  have hlen:=Ty.K_len k2
  rw [List.length_take] at hlen
  refine ⟨by simp [m1],?_,fun i x hx=>?_⟩
  ·rw [List.length_drop] at m2
   simp only [List.length_cons,Nat.succ_mul]
   omega
  ·cases i with
   | zero=>
    simp at hx
    subst hx
    simpa using k2
   | succ i=>
    have:=m3 i x (by simpa using hx)
    rw [List.drop_drop] at this
    rw [Nat.succ_mul,Nat.add_comm]
    exact this
theorem G7.all {vs:List (Nat×Vl)}:True:=trivial
theorem Ahv (h:B8 n B Iq s g a w) {nid:Nat} {T:TypeId} {len:Nat} {parts:Array (Nat×Operand)} {l:Lf} {s':St} (e:Wi P s nid T len parts=some (l,s')):
  ∃ u w' g',(Instr.buildSlice T len (parts.map fun (i,x)=>(i,a.eval x))).run P w=.ok u w'∧Go B Iq s g w s' g' w'∧B8 n B Iq s' g' a w'∧Dq s' g' w' l u∧u.oneCell'=true:=by
 unfold Wi at e
 split at e
 ·rename_i el vs hf hel hvs
  split at e
  ·rename_i hsmall
   obtain ⟨ls,e1,e⟩:=Option.bind_eq_some_iff.1 e
   split at e
   ·rename_i hf2
    obtain ⟨xs,e2,e⟩:=Option.bind_eq_some_iff.1 e
    cases e
    obtain ⟨hU,hsz,hzl,hby,⟨i,z,hi,hz,hi1,hi2,hzs⟩,hzL⟩:=Aca hel
    have hV:=Aac h hvs
    obtain ⟨zv,_,hL0,i',hi',hz'⟩:=M8 hzL s g w
    obtain rfl:i=i':=Option.some.inj (hi.symm.trans hi')
    obtain rfl:z=zv:=Option.some.inj (hz.symm.trans hz')
    have hL1:=A33 hL0 (by omega) len
    rw [hzl] at hL1
    obtain ⟨cs',f1,f2⟩:=Aqo e1 hV hL1
    obtain ⟨g1,hR1,go1,tr⟩:=E9 (ls:=Asm vs) h
    have hL2:=G7.imp tr f2
    obtain ⟨p1,p2⟩:=Aj7 hR1.res e2 hL2
    have hmap:(parts.map fun (i,x)=>(i,a.eval x)).toList=parts.toList.map fun p=>(p.1,a.eval p.2):=by rw [Array.toList_map]
    have hcs:cs'.size=xs.length * el.t.sz:=by
     have:=p2.1
     rwa [Array.length_toList] at this
    obtain ⟨q1,q2,q3⟩:=hR1.newRow hf2 (Ajd hel) (e:=el.e) (arr:=cs') (by simp only [maxLen]; rw [p1]; have:len≤len * el.t.sz:=Nat.le_mul_of_pos_right _ hsz; omega) hcs p2
    have hrun:(Instr.buildSlice T len (parts.map fun (i,x)=>(i,a.eval x))).run P w=.ok (.slice (some ⟨w.heap.size,0,none⟩) len len) (w.alloc (.cells cs' el.e)):=by
     by_cases h0:len * i.size=0
     ·have hl0:len=0:=by
       rcases Nat.mul_eq_zero.1 h0 with q | q
       ·exact q
       ·omega
      have hm0:madeCells z.cells (len * el.t.sz)=#[]:=by rw [hl0]; simp [madeCells]
      rw [hm0] at f1
      rw [hi1] at h0
      simp [Instr.buildSlice,run_underlying hU,sizeOf,typeInfo,hi,hi1,hl0,hmap,newRow,Array.range_zero']
      rw [f1]
      rfl
     ·refine run_buildSlice w T el.e len _ cs' i z hU hi hz (by rw [hi1]; omega) h0 ?_
      rw [hmap,hi1]
      exact f1
    rw [← p1] at hrun ⊢
    exact ⟨_,_,_,hrun,go1.trans (Go.alloc hR1 hf2 _ _ _),q1,q3,rfl⟩
   ·cases e
  ·cases e
 ·cases e
theorem H8.replicate {S:Nat→Prop} {t:Ty} {x0:t.D} {cs:List Value} (hK:t.K w S x0 cs) (k:Nat) {ds:List Value} (hl:ds.length=k * t.sz) (hd:∀ j,j < k * t.sz→ds[j]?=cs[j % t.sz]?):H8 w S t (List.replicate k x0) ds:=by
 refine ⟨by simpa using hl,fun i x hx=>?_⟩
 have hi:i < k:=by have:=(List.getElem?_eq_some_iff.1 hx).1; simpa using this
 have hx0:x=x0:=by
  rw [List.getElem?_replicate,if_pos hi] at hx
  exact (Option.some.inj hx).symm
 subst hx0
 have hcl:=Ty.K_len hK
 have hle:i * t.sz + t.sz≤k * t.sz:=by rw [← Nat.succ_mul]; exact Nat.mul_le_mul_right _ hi
 have:(ds.drop (i * t.sz)).take t.sz=cs:=by
  apply List.ext_getElem?
  intro j
  by_cases hj:j < t.sz
  ·rw [List.getElem?_take,if_pos hj,List.getElem?_drop,hd _ (by omega)]
   congr 1
   rw [Nat.mul_comm,Nat.mul_add_mod,Nat.mod_eq_of_lt hj]
  ·rw [List.getElem?_take,if_neg hj,List.getElem?_eq_none (by omega)]
 rw [this]
 exact hK
theorem Aj8 (h:B8 n B Iq s g a w) {nid:Nat} {T:TypeId} {x y:Operand} {l:Lf} {s':St} (e:Tc P s nid T x y=some (l,s')):
  ∃ u w' g',(Instr.makeSlice T (a.eval x) (a.eval y)).run P w=.ok u w'∧Go B Iq s g w s' g' w'∧B8 n B Iq s' g' a w'∧Dq s' g' w' l u∧u.oneCell'=true:=by
 unfold Tc at e
 split at e
 ·rename_i el kx k ky c hf hel hx hy
  split at e
  ·rename_i hkc
   subst hkc
   split at e
   ·rename_i h0
    split at e
    ·rename_i hb
     split at e
     ·rename_i x0 hp
      cases e
      obtain ⟨hU,hsz,hzl,hby,⟨i,z,hi,hz,hi1,hi2,hzs⟩,hzL⟩:=Aca hel
      obtain ⟨zv,_,hL0,i',hi',hz'⟩:=M8 hzL s g w
      obtain rfl:i=i':=Option.some.inj (hi.symm.trans hi')
      obtain rfl:z=zv:=Option.some.inj (hz.symm.trans hz')
      obtain ⟨_,hK⟩:=St.parse_K h.res hp hL0
      have hzl2:z.cells.toList.length=el.t.sz:=by rw [Array.length_toList]; exact hzs
      rw [List.take_of_length_le (by omega)] at hK
      obtain ⟨m,rfl⟩:=Int.eq_ofNat_of_zero_le h0
      rw [Int.toNat_natCast] at hb ⊢
      have hm:m≤140737488355328:=Nat.le_trans (Nat.le_mul_of_pos_right _ hby) hb
      have hrun:=run_make (P:=P) w T el.e i z hU hi hz kx ky m m (by omega) (Int.le_refl _) (by rw [hi2,Int.mul_comm]; omega) (by omega)
      simp only [Int.toNat_natCast] at hrun
      rw [hi1] at hrun
      have hrep:H8 w (Eu s g) el.t (List.replicate m x0) (madeCells z.cells (m * el.t.sz)).toList:=by
       refine H8.replicate hK m (by rw [Array.length_toList,size_madeCells]) (fun j hj=>?_)
       have hmod:j % el.t.sz < z.cells.size:=by rw [hzs]; exact Nat.mod_lt _ hsz
       unfold madeCells
       rw [Array.getElem?_toList,Array.getElem?_map]
       have hr:(Array.range (m * el.t.sz))[j]?=some j:=by simp [hj]
       rw [hr]
       simp only [Option.map_some]
       rw [hzs,getElem!_pos z.cells _ hmod,Array.getElem?_toList,Array.getElem?_eq_getElem hmod]
      obtain ⟨q1,q2,q3⟩:=h.newRow hf (Ajd hel) (e:=el.e) (xs:=List.replicate m x0) (arr:=madeCells z.cells (m * el.t.sz)) (by simp only [maxLen,List.length_replicate]; omega) (by rw [size_madeCells,List.length_replicate]) hrep
      simp only [List.length_replicate] at q1 q3
      refine ⟨_,_,_,?_,by have:=Go.alloc h hf (.row el.e el.t (List.replicate m x0)) (.slice (some ⟨w.heap.size,0,none⟩) m m) (.cells (madeCells z.cells (m * el.t.sz)) el.e); exact this,q1,q3,rfl⟩
      rw [(Db h hx).1,(Db h hy).1]
      exact hrun
     ·cases e
    ·cases e
   ·cases e
  ·cases e
 ·cases e
theorem A4r {S:Nat→Prop} {t:Ty} {xs:List t.D} {A:Option Addr} {len cap lo hi:Nat} (hK:(Ty.sl t).K w S xs [.slice A len cap]) (h1:lo≤hi) (h2:hi≤List.length xs):
  (Ty.sl t).K w S (List.drop lo (List.take hi xs)) [.slice (if cap=lo then A else A.map (·.add (lo * t.sz))) (hi - lo) (cap - lo)]:=by
 obtain ⟨A',c',hu,hle,hx⟩:=hK
 cases hu
 have hl:List.length (List.drop lo (List.take hi xs))=hi - lo:=by rw [List.length_drop,List.length_take]; omega
 refine ⟨_,cap - lo,by rw [hl],by rw [hl]; omega,fun i x hix=>?_⟩
 have hix':(List.drop lo (List.take hi xs))[i]?=some x:=hix
 rw [List.getElem?_drop,List.getElem?_take] at hix'
 split at hix'
 ·rename_i hi2
  obtain ⟨ad,hA,hs,hlt,cs',k1,k2,k3⟩:=hx (lo + i) x hix'
  subst hA
  rw [if_neg (by omega)]
  refine ⟨_,rfl,by rw [U0]; exact hs,by rw [U0]; exact hlt,cs',k1,k2,fun j u hu=>?_⟩
  have:=k3 j u hu
  rw [Ai9]
  have e:lo * t.sz + (i * t.sz + j)=(lo + i) * t.sz + j:=by rw [Nat.add_mul]; omega
  rw [e]
  exact this
 ·cases hix'
theorem Avd (h:B8 n B Iq s g a w) {T:TypeId} {x:Operand} {lo hi:Option Operand} {l:Lf} {s':St} (e:Ajc P s T x lo hi=some (l,s')):
  ∃ u g',(Instr.sliceAt T (a.eval x) (lo.map a.eval) (hi.map a.eval) none).run P w=.ok u w∧Go B Iq s g w s' g' w∧B8 n B Iq s' g' a w∧Dq s' g' w l u∧u.oneCell'=true:=by
 unfold Ajc at e
 split at e
 ·rename_i el hU
  split at e
  ·rename_i i l0 hi0 hx
   split at e
   ·rename_i t xs hsl
    split at e
    ·rename_i hsz
     split at e
     ·rename_i ka p kb q hlo hhi
      split at e
      ·rename_i h0
       split at e
       ·rename_i h1
        split at e
        ·rename_i h2
         cases e
         obtain ⟨g1,hR1,go1,tr⟩:=E9 (ls:=[l0]) h
         obtain ⟨hl,_⟩:=Dc h hx
         obtain ⟨A,c,hu,hK⟩:=Az4 hR1 hsl (tr _ _ hl)
         obtain ⟨p',rfl⟩:=Int.eq_ofNat_of_zero_le h0
         obtain ⟨q',rfl⟩:=Int.eq_ofNat_of_zero_le (Int.le_trans h0 h1)
         rw [Int.toNat_natCast,Int.toNat_natCast]
         have hel:P.elem T=el:=by simp [Program.elem,hU]
         have hcle:List.length xs≤c:=by
          obtain ⟨_,_,e1,e2,_⟩:=hK
          rw [hu] at e1
          cases e1
          exact e2
         rw [hu] at hK
         have hpart:=A4r hK (lo:=p') (hi:=q') (by omega) (by omega)
         refine ⟨.slice (if c=p' then A else A.map (·.add (p' * t.sz))) (q' - p') (c - p'),g1,?_,go1,hR1,hpart,rfl⟩
         have blo:∀ w,(match lo.map a.eval with | some v=>Instr.sliceBound v q' .sliceB | none=>pure 0:Sem Nat).run P w=.ok p' w:=by
          intro w
          cases lo with
          | none=>
           simp only at hlo
           cases hlo
           rfl
          | some y=>
           simp only at hlo
           simp only [Option.map_some,(Db h hlo).1]
           simp [Instr.sliceBound,asIntOf,h0,show p'≤q' by omega]
         have bhi:∀ w,(match hi.map a.eval with | some v=>Instr.sliceBound v c .sliceAcap | none=>pure (List.length xs):Sem Nat).run P w=.ok q' w:=by
          intro w
          cases hi with
          | none=>
           simp only [Option.some.injEq,Value.int.injEq] at hhi
           have:List.length xs=q':=by omega
           rw [← this]
           rfl
          | some y=>
           simp only at hhi
           simp only [Option.map_some,(Db h hhi).1]
           simp [Instr.sliceBound,asIntOf,show q'≤c by omega]
         rw [hu]
         cases hi with
         | none=>
          have b2:=bhi
          simp only [Option.map_none] at b2
          have hq:List.length xs=q':=by
           have:=b2 w
           simp at this
           exact this
          cases lo with
          | none=>
           have b1:=blo w
           simp at b1
           subst b1
           simp [Instr.sliceAt,Instr.slice,run_underlying hU,Instr.sliceBounds,sizeOf,typeInfo,hi0,hsz,hq]
          | some y=>
           have b1:=blo
           simp only [Option.map_some] at b1 ⊢
           simp [Instr.sliceAt,Instr.slice,run_underlying hU,Instr.sliceBounds,sizeOf,typeInfo,hi0,hsz,hq,b1]
         | some y2=>
          have b2:=bhi
          simp only [Option.map_some] at b2 ⊢
          cases lo with
          | none=>
           have b1:=blo w
           simp at b1
           subst b1
           simp [Instr.sliceAt,Instr.slice,run_underlying hU,Instr.sliceBounds,sizeOf,typeInfo,hi0,hsz,b2]
          | some y=>
           have b1:=blo
           simp only [Option.map_some] at b1 ⊢
           simp [Instr.sliceAt,Instr.slice,run_underlying hU,Instr.sliceBounds,sizeOf,typeInfo,hi0,hsz,b2,b1]
        ·cases e
       ·cases e
      ·cases e
     ·cases e
    ·cases e
   ·cases e
  ·cases e
 ·cases e
end
end Go.Proofs.YtfkefgbihlfjmaaGreat.R

