/- Short forms: tables, patterns and loops, listed. No condition. -/
import Derived.Test.YtfkefgbihlfjmaaGreatRBld
import Derived.KernelRfl
namespace Go.Proofs.YtfkefgbihlfjmaaGreat.R
open Go Go.RowKit Go.Proofs
set_option linter.unusedVariables false
abbrev B2 (P:Program) (n:FuncId) (sd:SD):Prop:=J6 P n∧Yz P n sd.sg sd.den
def tbF:List (FuncId×SD)→FuncId→Option SD
 | [],_=>none
 | p::r,f=>if f=p.1 then some p.2 else tbF r f
def A48 (P:Program):List (FuncId×SD)→Prop
 | []=>True
 | p::r=>B2 P p.1 p.2∧A48 P r
theorem Av3 {P:Program}:∀ {l:List (FuncId×SD)},A48 P l→∀ f d,tbF l f=some d→J6 P f∧Yz P f d.sg d.den
 | [],_,f,d,h=>by cases h
 | p::r,⟨a,b⟩,f,d,h=>by
  unfold tbF at h
  split at h
  ·rename_i e; subst e; cases h; exact a
  ·exact Av3 b f d h
def tb (l:List (FuncId×SD)):Tb:=Tb.of (tbF l)
theorem A7 {P:Program} {l:List (FuncId×SD)} (h:A48 P l):A2 P (tb l):=A2.of (Av3 h)
abbrev p0:Pat:=⟨[],[],[]⟩
def A5z:List (Nat×Pat)→Nat→Pat
 | [],_=>p0
 | p::r,e=>if e=p.1 then p.2 else A5z r e
def Gf:List (Nat×Pat×List (Nat×Pat))→Nat→Pat×(Nat→Pat)
 | [],_=>(p0,fun _=>p0)
 | p::r,k=>if k=p.1 then (p.2.1,A5z p.2.2) else Gf r k
def I1 {R:Type} (p:Pat×(Nat→Pat)) (e:Ex) (i:Nat) (k:Kt R) (d:(p.2 i).D):Option R:=k e ((p.2 i).st d) (p.2 i).nid
def Ay9 (P:Program) (R:Type) (n np:Nat) (pat:Nat→Pat×(Nat→Pat)) (L:Lt R pat):List Code→Prop
 | []=>True
 | c::r=>A3 P R n np pat L c∧Ay9 P R n np pat L r
section
variable {P:Program} {R:Type} {n np:Nat}
theorem Ay9.all {pat:Nat→Pat×(Nat→Pat)} {L:Lt R pat}:∀ {l:List Code},Ay9 P R n np pat L l→∀ c∈l,A3 P R n np pat L c
 | [],_,c,h=>by cases h
 | d::r,⟨a,b⟩,c,h=>by
  rcases List.mem_cons.1 h with rfl | h
  ·exact a
  ·exact Ay9.all b c h
theorem B3 {cfg:Cfg} {L:Lt R cfg.pat} {c:Code} (key:Nat) (ls:List Code) {E:Type} (T:{S:Type}→((cfg.pat key).1.D→Option S)→(E→Option S)→(cfg.pat key).1.D→Option S)
  (lo:Nat→(cfg.pat key).1.D→Option E) (fu:(cfg.pat key).1.D→Nat) (ou:Kt R→E→Option R) (hs:A2 P cfg.sigs) (hls':Ay9 P R n np cfg.pat L ls)
  (na:∀ (f:E→Option R) (NX:(cfg.pat key).1.D→Option E) d,T (fun d=>(NX d).bind f) f d=(T NX some d).bind f)
  (rd:∀ nx k d,ev P cfg L c ((cfg.pat key).1.st d) (cfg.pat key).1.nid (Avz np (cfg.pat key) nx k)=T (fun d=>nx d k) (ou k) d)
  (hL:∀ d k,L key d k=(lo (fu d) d).bind (ou k):=by exact fun _ _=>rfl)
  (l0:∀ d,lo 0 d=none:=by exact fun _=>rfl) (l1:∀ m d,lo (m + 1) d=T (lo m) some d:=by exact fun _ _=>rfl)
  (hkey:Ht c=key:=by kernel_rfl) (hm:P.follows .mixedOrders=true:=by kernel_rfl) (hn:cfg.n=n:=by rfl) (hnp:cfg.np=np:=by rfl) (hls:As c=ls:=by kernel_rfl):A3 P R n np cfg.pat L c:=by
 have lp:∀ (m:Nat) (d:(cfg.pat key).1.D) (k:Kt R),Ag9 np (cfg.pat key) (fun s nid k=>ev P cfg L c s nid k) m d k=(lo m d).bind (ou k):=by
  intro m
  induction m with
  | zero=>intro d k; rw [l0]; rfl
  | succ m ih=>
   intro d k
   rw [l1,← na]
   refine Eq.trans ?_ (congrArg (fun F=>T F (ou k) d) (funext fun d=>ih d k))
   exact rd _ k d
 refine A1b hkey hm hs hn hnp (fun d k r h=>⟨fu d,?_⟩) (fun c' hc'=>?_)
 ·rw [lp,← hL]; exact h
 ·rw [hls] at hc'; exact hls'.all c' hc'
theorem A6 {sigs:Tb} {f:FuncId} {fn:Func} {sd:SD} {pat:Nat→Pat×(Nat→Pat)} (ls:List Code) (L:Lt (Tf sd.sg.rs×BxD sd.sg.ps) pat) (hs:A2 P sigs)
  (hL:Ay9 P (Tf sd.sg.rs×BxD sd.sg.ps) fn.ntmps (Ks sd.sg.ps) pat L ls) (hf:P.funcs[f]?=some fn) {de:Tf sd.sg.ps→Option (Tf sd.sg.rs×BxD sd.sg.ps)} (hden:∀ x r,sd.den x=some r→de x=some r)
  (he : ∀ x, A09 P sigs pat sd.sg fn L x = de x) (hm : P.follows .mixedOrders = true := by kernel_rfl) (hname : (fn.name == "runtime.NumGoroutine") = false := by kernel_rfl) (hbody : fn.body.isNone = false := by kernel_rfl)
  (hls:As (Ba fn)=ls:=by kernel_rfl):B2 P f sd:=
 A1a (pat:=pat) hm hs hf hname hbody fun x r hx=>⟨L,⟨fun c hc=>hL.all c (by rw [hls] at hc; exact hc),(he x).trans (hden x r hx)⟩⟩
theorem Hv {α β:Type} {o:Option α} {g:α→β} {r:β} {d:Option β} (q:∀ y,o=some y→d=some (g y)) (h:(o.bind fun r=>some (g r))=some r):d=some r:=by
 obtain ⟨y,h1,h2⟩:=Option.bind_eq_some_iff.1 h
 cases h2
 exact q y h1
end
end Go.Proofs.YtfkefgbihlfjmaaGreat.R

