/- Short forms: tables, patterns and loops, listed. No condition. -/
import Derived.Test.YtkfoebbjncngjaaRBld
import Derived.KernelRfl
namespace Go.Proofs.Ytkfoebbjncngjaa.R
open Go Go.RowKit Go.Proofs
set_option linter.unusedVariables false
abbrev Eo (P : Program) (n : FuncId) (sd : SD) : Prop := Cr P n ∧ Io P n sd.sg sd.den
def tbF : List (FuncId × SD) → FuncId → Option SD
 | [], _ => none
 | p :: r, f => if f = p.1 then some p.2 else tbF r f
def Acg (P : Program) : List (FuncId × SD) → Prop
 | [] => True
 | p :: r => Eo P p.1 p.2 ∧ Acg P r
theorem p8 {P : Program} : ∀ {l : List (FuncId × SD)}, Acg P l → ∀ f d, tbF l f = some d → Cr P f ∧ Io P f d.sg d.den
 | [], _, f, d, h => by cases h
 | p :: r, ⟨a, b⟩, f, d, h => by
  unfold tbF at h
  split at h
  ·rename_i e; subst e; cases h; exact a
  ·exact p8 b f d h
def tb (l : List (FuncId × SD)) : Tb := Tb.of (tbF l)
theorem Ck {P : Program} {l : List (FuncId × SD)} (h : Acg P l) : A7 P (tb l) := A7.of (p8 h)
abbrev p0 : Pat := ⟨[], [], []⟩
def Ac0 : List (Nat × Pat) → Nat → Pat
 | [], _ => p0
 | p :: r, e => if e = p.1 then p.2 else Ac0 r e
def Sc : List (Nat × Pat × List (Nat × Pat)) → Nat → Pat × (Nat → Pat)
 | [], _ => (p0, fun _ => p0)
 | p :: r, k => if k = p.1 then (p.2.1, Ac0 p.2.2) else Sc r k
def y6 {R : Type} (p : Pat × (Nat → Pat)) (e : Ex) (i : Nat) (k : Kt R) (d : (p.2 i).D) : Option R := k e ((p.2 i).st d) (p.2 i).nid
def a8 (P : Program) (R : Type) (n np : Nat) (pat : Nat → Pat × (Nat → Pat)) (L : Lt R pat) : List Code → Prop
 | [] => True
 | c :: r => Cn P R n np pat L c ∧ a8 P R n np pat L r
section
variable {P : Program} {R : Type} {n np : Nat}
theorem a8.all {pat : Nat → Pat × (Nat → Pat)} {L : Lt R pat} : ∀ {l : List Code}, a8 P R n np pat L l → ∀ c ∈ l, Cn P R n np pat L c
 | [], _, c, h => by cases h
 | d :: r, ⟨a, b⟩, c, h => by
  rcases List.mem_cons.1 h with rfl | h
  ·exact a
  ·exact a8.all b c h
theorem Ke {cfg : Z6} {L : Lt R cfg.pat} {c : Code} (key : Nat) (ls : List Code) {E : Type} (T : {S : Type} → ((cfg.pat key).1.D → Option S) → (E → Option S) → (cfg.pat key).1.D → Option S)
  (lo : Nat → (cfg.pat key).1.D → Option E) (fu : (cfg.pat key).1.D → Nat) (ou : Kt R → E → Option R) (hs : A7 P cfg.sigs) (hls' : a8 P R n np cfg.pat L ls)
  (na : ∀ (f : E → Option R) (NX : (cfg.pat key).1.D → Option E) d, T (fun d => (NX d).bind f) f d = (T NX some d).bind f)
  (rd : ∀ nx k d, ev P cfg L c ((cfg.pat key).1.st d) (cfg.pat key).1.nid (X6 np (cfg.pat key) nx k) = T (fun d => nx d k) (ou k) d)
  (hL : ∀ d k, L key d k = (lo (fu d) d).bind (ou k) := by exact fun _ _ => rfl)
  (l0 : ∀ d, lo 0 d = none := by exact fun _ => rfl) (l1 : ∀ m d, lo (m + 1) d = T (lo m) some d := by exact fun _ _ => rfl)
  (hkey : B0 c = key := by kernel_rfl) (hm : P.follows .mixedOrders = true := by kernel_rfl) (hn : cfg.n = n := by rfl) (hnp : cfg.np = np := by rfl) (hls : Bi c = ls := by kernel_rfl) : Cn P R n np cfg.pat L c := by
 have lp : ∀ (m : Nat) (d : (cfg.pat key).1.D) (k : Kt R), Ot np (cfg.pat key) (fun s nid k => ev P cfg L c s nid k) m d k = (lo m d).bind (ou k) := by
  intro m
  induction m with
  | zero => intro d k; rw [l0]; rfl
  | succ m ih =>
   intro d k
   rw [l1, ← na]
   refine Eq.trans ?_ (congrArg (fun F => T F (ou k) d) (funext fun d => ih d k))
   exact rd _ k d
 refine o8 hkey hm hs hn hnp (fun d k r h => ⟨fu d, ?_⟩) (fun c' hc' => ?_)
 ·rw [lp, ← hL]; exact h
 ·rw [hls] at hc'; exact hls'.all c' hc'
theorem Cl {sigs : Tb} {f : FuncId} {fn : Func} {sd : SD} {pat : Nat → Pat × (Nat → Pat)} (ls : List Code) (L : Lt (Gr sd.sg.rs × Kr sd.sg.ps) pat) (hs : A7 P sigs)
  (hL : a8 P (Gr sd.sg.rs × Kr sd.sg.ps) fn.ntmps (Cx sd.sg.ps) pat L ls) (hf : P.funcs[f]? = some fn) {de : Gr sd.sg.ps → Option (Gr sd.sg.rs × Kr sd.sg.ps)} (hden : ∀ x r, sd.den x = some r → de x = some r)
  (he : ∀ x, o6 P sigs pat sd.sg fn L x = de x) (hm : P.follows .mixedOrders = true := by kernel_rfl) (hname : (fn.name == "runtime.NumGoroutine") = false := by kernel_rfl) (hbody : fn.body.isNone = false := by kernel_rfl)
  (hls : Bi (D9 fn) = ls := by kernel_rfl) : Eo P f sd :=
 o7 (pat := pat) hm hs hf hname hbody fun x r hx => ⟨L, ⟨fun c hc => hL.all c (by rw [hls] at hc; exact hc), (he x).trans (hden x r hx)⟩⟩
theorem H9 {α β : Type} {o : Option α} {g : α → β} {r : β} {d : Option β} (q : ∀ y, o = some y → d = some (g y)) (h : (o.bind fun r => some (g r)) = some r) : d = some r := by
 obtain ⟨y, h1, h2⟩ := Option.bind_eq_some_iff.1 h
 cases h2
 exact q y h1
end
end Go.Proofs.Ytkfoebbjncngjaa.R

