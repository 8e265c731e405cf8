/- A loop over a map: in whatever order the entries come, it comes to the same. No condition. -/
import Derived.Test.YtfkefgbihlfjmaaGreatRFun
namespace Go.Proofs.YtfkefgbihlfjmaaGreat.R
open Go Go.RowKit
set_option linter.unusedVariables false
set_option linter.unusedSimpArgs false
def A1c {D E O:Type} (left:D→List E) (stp:D→E→List E→Option D) (fin:D→Option O):Nat→D→O→Prop
 | 0,_,_=>False
 | m + 1,d,r=>(left d=[]→fin d=some r)∧∀ (i:Nat) (e:E),(left d)[i]?=some e→∃ d',stp d e ((left d).eraseIdx i)=some d'∧A1c left stp fin m d' r
theorem A1c.one {D E O:Type} {left:D→List E} {stp:D→E→List E→Option D} {fin:D→Option O}:∀ {m m':Nat} {d:D} {r r':O},A1c left stp fin m d r→A1c left stp fin m' d r'→r=r'
 | 0,_,_,_,_,h,_=>h.elim
 | _,0,_,_,_,_,h=>h.elim
 | m + 1,m' + 1,d,r,r',h,k=>by
  cases hl:left d with
  | nil=>exact Option.some.inj ((h.1 hl).symm.trans (k.1 hl))
  | cons e l=>
   obtain ⟨d1,e1,h1⟩:=h.2 0 e (by rw [hl]; rfl)
   obtain ⟨d2,e2,h2⟩:=k.2 0 e (by rw [hl]; rfl)
   obtain rfl:d1=d2:=Option.some.inj (e1.symm.trans e2)
   exact A1c.one h1 h2
section
variable {P:Program} {n B:Nat} {Iq:List Nat} {s:St} {g:Gh} {a:Act} {w:World}
end
section
variable {R:Type} {P:Program} {n np B:Nat} {Iq:List Nat} {s0:St} {g0:Gh} {w0:World} {r:R}
end
end Go.Proofs.YtfkefgbihlfjmaaGreat.R

