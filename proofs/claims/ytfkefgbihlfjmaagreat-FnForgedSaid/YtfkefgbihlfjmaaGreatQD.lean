/- What is drawn comes to some value. No condition. -/
import Derived.Test.YtfkefgbihlfjmaaGreatQS
namespace Go.Proofs.YtfkefgbihlfjmaaGreat.V
open Go Go.Proofs.YtfkefgbihlfjmaaGreat.R
set_option linter.unusedVariables false
set_option linter.unusedSimpArgs false
def Ai {α:Type} (o:Option α) (Q:α→Prop):Prop:=∃ a,o=some a∧Q a
theorem Ai.bind {α β:Type} {o:Option α} {f:α→Option β} {Q:α→Prop} {S:β→Prop} (h:Ai o Q) (k:∀ a,Q a→Ai (f a) S):Ai (o.bind f) S:=by
 obtain ⟨a,e,q⟩:=h
 rw [e]
 exact k a q
theorem Ai.cond {α:Type} {c:Bool} {x y:Option α} {Q:α→Prop} (h1:c=true→Ai x Q) (h2:c=false→Ai y Q):Ai (bif c then x else y) Q:=by
 cases c
 ·exact h2 rfl
 ·exact h1 rfl
theorem Ai.go {α:Type} {c:Bool} {x y:Option α} {Q:α→Prop} (h:c=true) (k:Ai x Q):Ai (bif c then x else y) Q:=by
 rw [h]
 exact k
theorem Ai.no {α:Type} {c:Bool} {x y:Option α} {Q:α→Prop} (h:c=false) (k:Ai y Q):Ai (bif c then x else y) Q:=by
 rw [h]
 exact k
theorem Ai.some {α:Type} {a:α} {Q:α→Prop} (h:Q a):Ai (Option.some a) Q:=⟨a,rfl,h⟩
theorem Ai.mono {α:Type} {o:Option α} {Q S:α→Prop} (h:Ai o Q) (k:∀ a,Q a→S a):Ai o S:=by
 obtain ⟨a,e,q⟩:=h
 exact ⟨a,e,k a q⟩
theorem Ai.sum {α β γ:Type} {f:α→Option γ} {g:β→Option γ} {o:α ⊕ β} {Q:γ→Prop} (h1:∀ a,o=.inl a→Ai (f a) Q) (h2:∀ b,o=.inr b→Ai (g b) Q):Ai (Cj f g o) Q:=by
 cases o with
 | inl a=>exact h1 a rfl
 | inr b=>exact h2 b rfl
theorem Ai.loop {σ E:Type} {g:Nat→σ→Option E} (I:Nat→σ→Prop) {Q:E→Prop} (step:∀ m k s,I k s→(∀ k' s',k' < k→I k' s'→Ai (g m s') Q)→Ai (g (m + 1) s) Q):
  ∀ (m k:Nat) (s:σ),k < m→I k s→Ai (g m s) Q
 | 0,k,s,h,_=>by omega
 | m + 1,k,s,h,hI=>step m k s hI fun k' s' h' hI'=>Ai.loop I step m k' s' (by omega) hI'
abbrev Rd:=List Int×Int×Unit
def rdB (b:List Int):Bool:=decide (b.length≤2000)&&b.all fun x=>decide (0≤x)&&decide (x < 256)
def Kz (k:Nat) (r:Rd):Prop:=rdB r.1=true∧0≤r.2.1∧r.2.1≤(k:Int)
theorem Kz.mono {k k':Nat} {r:Rd} (h:Kz k r) (hk:k≤k'):Kz k' r:=⟨h.1,h.2.1,by have:=h.2.2; omega⟩
theorem Awf {b:List Int} (h:rdB b=true) (i:Nat):0≤b.getD i 0∧b.getD i 0 < 256:=by
 unfold rdB at h
 simp only [Bool.and_eq_true,decide_eq_true_eq,List.all_eq_true] at h
 by_cases hi:i < b.length
 ·rw [List.getD_eq_getElem?_getD,List.getElem?_eq_getElem hi,Option.getD_some]
  exact h.2 _ (List.getElem_mem hi)
 ·rw [List.getD_eq_getElem?_getD,List.getElem?_eq_none (by omega)]
  exact ⟨Int.le_refl 0,by decide⟩
theorem Awg {α:Type} {l:List α} {d:α} {v:Int} {Q:α→Prop} (h:∀ x∈l,Q x) (h0:0≤v) (h1:v < nI l.length):Q (l.getD v.toNat d):=by
 simp only [nI] at h1
 have hi:v.toNat < l.length:=by omega
 rw [List.getD_eq_getElem?_getD,List.getElem?_eq_getElem hi,Option.getD_some]
 exact h _ (List.getElem_mem hi)
theorem Aju {s:ByteArray} {i j:Int} (h0:0≤i) (h1:i≤j) (h2:j≤(s.size:Int)):((Ac s i j).size:Int)=j - i:=by
 rw [C6 h0 h1 h2]
 omega
theorem Ajv {x n:Int} (h0:0≤x) (hn:1≤n):0≤x.tmod n∧x.tmod n < n:=by
 rw [Int.tmod_eq_emod_of_nonneg h0]
 exact ⟨Int.emod_nonneg _ (by omega),Int.emod_lt_of_pos _ (by omega)⟩
theorem Azk {x y:Int} (hx:0≤x) (hx':x < 4611686018427387904) (hy:0≤y) (hy':y < 4611686018427387904):
  0≤IntKind.i64.wrap (nI (BitVec.ofInt 64 x ^^^ BitVec.ofInt 64 y).toNat):=by
 obtain ⟨a,rfl⟩:∃ a:Nat,x=(a:Int):=⟨x.toNat,by omega⟩
 obtain ⟨b,rfl⟩:∃ b:Nat,y=(b:Int):=⟨y.toNat,by omega⟩
 have h:(BitVec.ofInt 64 (a:Int) ^^^ BitVec.ofInt 64 (b:Int)).toNat < 4611686018427387904:=by
  rw [BitVec.toNat_xor,BitVec.ofInt_natCast,BitVec.ofInt_natCast,BitVec.toNat_ofNat,BitVec.toNat_ofNat,Nat.mod_eq_of_lt (by omega),Nat.mod_eq_of_lt (by omega)]
  exact Nat.xor_lt_two_pow (n:=62) (by omega) (by omega)
 simp only [nI]
 rw [Ag (by omega) (by omega)]
 omega
theorem Ai.letter {α:Type} {A:ByteArray} {v:Int} {x:Option α} {S:α→Prop} (v0:0≤v) (v1:v < nI A.size) (k:(Ac (Ac A v (nI A.size)) 0 1).size=1→Ai x S):
  Ai (bif decide (0≤v) then bif decide (v≤nI A.size) then bif decide (1≤nI (Ac A v (nI A.size)).size) then x else none else none else none) S:=by
 have e1:=Aju (s:=A) v0 (show v≤nI A.size by omega) (Int.le_refl _)
 have e2:=Aju (s:=Ac A v (nI A.size)) (i:=0) (j:=1) (by omega) (by omega) (by simp only [nI] at *; omega)
 exact Ai.go (decide_eq_true v0) (Ai.go (decide_eq_true (Int.le_of_lt v1)) (Ai.go (decide_eq_true (by simp only [nI] at *; omega)) (k (by omega))))
theorem Ai.law {o:Option ((Bool×Unit)×Unit)} (h:Ai o fun r=>r.1.1=true):o=Option.some ((true,()),()):=by
 obtain ⟨⟨⟨b,⟨⟩⟩,⟨⟩⟩,e,q⟩:=h
 simp only at q
 rw [e,q]
def An0 (c:Chg):Prop:=c.1.size≤1000∧c.2.1.size≤1000
theorem A1u {l:List Chg} {c:Chg} (h:∀ c∈l,An0 c) (hc:An0 c):∀ x∈l++[c],An0 x:=fun x hx=>by
 rcases List.mem_append.1 hx with q | q
 ·exact h x q
 ·rw [List.mem_singleton.1 q]; exact hc
end Go.Proofs.YtfkefgbihlfjmaaGreat.V

