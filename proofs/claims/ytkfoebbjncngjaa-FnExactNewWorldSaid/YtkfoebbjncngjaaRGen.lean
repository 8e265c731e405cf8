/- Short forms: tables, patterns and loops, listed. No condition. -/
import Derived.Test.YtkfoebbjncngjaaRBld
import Derived.KernelRfl
namespace Go.Proofs.Ytkfoebbjncngjaa.R
open Go Go.RowKit Go.Proofs
set_option linter.unusedVariables false
abbrev Db (P : Program) (n : FuncId) (sd : SD) : Prop := C9 P n ∧ J6 P n sd.sg sd.den
def tbF : List (FuncId × SD) → FuncId → Option SD
 | [], _ => none
 | p :: r, f => if f = p.1 then some p.2 else tbF r f
def Ab5 (P : Program) : List (FuncId × SD) → Prop
 | [] => True
 | p :: r => Db P p.1 p.2 ∧ Ab5 P r
theorem w7 {P : Program} : ∀ {l : List (FuncId × SD)}, Ab5 P l → ∀ f d, tbF l f = some d → C9 P f ∧ J6 P f d.sg d.den
 | [], _, f, d, h => by cases h
 | p :: r, ⟨a, b⟩, f, d, h => by
  unfold tbF at h
  split at h
  ·rename_i e; subst e; cases h; exact a
  ·exact w7 b f d h
def tb (l : List (FuncId × SD)) : Tb := Tb.of (tbF l)
theorem B1 {P : Program} {l : List (FuncId × SD)} (h : Ab5 P l) : A2 P (tb l) := A2.of (w7 h)
abbrev p0 : Pat := ⟨[], [], []⟩
def Acp : List (Nat × Pat) → Nat → Pat
 | [], _ => p0
 | p :: r, e => if e = p.1 then p.2 else Acp r e
def Lh : List (Nat × Pat × List (Nat × Pat)) → Nat → Pat × (Nat → Pat)
 | [], _ => (p0, fun _ => p0)
 | p :: r, k => if k = p.1 then (p.2.1, Acp p.2.2) else Lh r k
def Tj {R : Type} (p : Pat × (Nat → Pat)) (e : Ex) (i : Nat) (k : Kt R) (d : (p.2 i).D) : Option R := k e ((p.2 i).st d) (p.2 i).nid
def i4 (P : Program) (R : Type) (n np : Nat) (pat : Nat → Pat × (Nat → Pat)) (L : Lt R pat) : List Code → Prop
 | [] => True
 | c :: r => Cb P R n np pat L c ∧ i4 P R n np pat L r
section
variable {P : Program} {R : Type} {n np : Nat}
theorem i4.all {pat : Nat → Pat × (Nat → Pat)} {L : Lt R pat} : ∀ {l : List Code}, i4 P R n np pat L l → ∀ c ∈ l, Cb P R n np pat L c
 | [], _, c, h => by cases h
 | d :: r, ⟨a, b⟩, c, h => by
  rcases List.mem_cons.1 h with rfl | h
  ·exact a
  ·exact i4.all b c h
theorem G3 {cfg : g7} {L : Lt R cfg.pat} {c : Code} (key : Nat) (ls : List Code) {E : Type} (T : {S : Type} → ((cfg.pat key).1.D → Option S) → (E → Option S) → (cfg.pat key).1.D → Option S)
  (lo : Nat → (cfg.pat key).1.D → Option E) (fu : (cfg.pat key).1.D → Nat) (ou : Kt R → E → Option R) (hs : A2 P cfg.sigs) (hls' : i4 P R n np cfg.pat L ls)
  (na : ∀ (f : E → Option R) (NX : (cfg.pat key).1.D → Option E) d, T (fun d => (NX d).bind f) f d = (T NX some d).bind f)
  (rd : ∀ nx k d, ev P cfg L c ((cfg.pat key).1.st d) (cfg.pat key).1.nid (Y6 np (cfg.pat key) nx k) = T (fun d => nx d k) (ou k) d)
  (hL : ∀ d k, L key d k = (lo (fu d) d).bind (ou k) := by exact fun _ _ => rfl)
  (l0 : ∀ d, lo 0 d = none := by exact fun _ => rfl) (l1 : ∀ m d, lo (m + 1) d = T (lo m) some d := by exact fun _ _ => rfl)
  (hkey : Cq c = key := by kernel_rfl) (hm : P.follows .mixedOrders = true := by kernel_rfl) (hn : cfg.n = n := by rfl) (hnp : cfg.np = np := by rfl) (hls : Bb c = ls := by kernel_rfl) : Cb P R n np cfg.pat L c := by
 have lp : ∀ (m : Nat) (d : (cfg.pat key).1.D) (k : Kt R), Ql np (cfg.pat key) (fun s nid k => ev P cfg L c s nid k) m d k = (lo m d).bind (ou k) := by
  intro m
  induction m with
  | zero => intro d k; rw [l0]; rfl
  | succ m ih =>
   intro d k
   rw [l1, ← na]
   refine Eq.trans ?_ (congrArg (fun F => T F (ou k) d) (funext fun d => ih d k))
   exact rd _ k d
 refine v6 hkey hm hs hn hnp (fun d k r h => ⟨fu d, ?_⟩) (fun c' hc' => ?_)
 ·rw [lp, ← hL]; exact h
 ·rw [hls] at hc'; exact hls'.all c' hc'
theorem B2 {sigs : Tb} {f : FuncId} {fn : Func} {sd : SD} {pat : Nat → Pat × (Nat → Pat)} (ls : List Code) (L : Lt (Hn sd.sg.rs × L2 sd.sg.ps) pat) (hs : A2 P sigs)
  (hL : i4 P (Hn sd.sg.rs × L2 sd.sg.ps) fn.ntmps (Dm sd.sg.ps) pat L ls) (hf : P.funcs[f]? = some fn) {de : Hn sd.sg.ps → Option (Hn sd.sg.rs × L2 sd.sg.ps)} (hden : ∀ x r, sd.den x = some r → de x = some r)
  (he : ∀ x, u7 P sigs pat sd.sg fn L x = de x) (hm : P.follows .mixedOrders = true := by kernel_rfl) (hname : (fn.name == "runtime.NumGoroutine") = false := by kernel_rfl) (hbody : fn.body.isNone = false := by kernel_rfl)
  (hls : Bb (C6 fn) = ls := by kernel_rfl) : Db P f sd :=
 u9 (pat := pat) hm hs hf hname hbody fun x r hx => ⟨L, ⟨fun c hc => hL.all c (by rw [hls] at hc; exact hc), (he x).trans (hden x r hx)⟩⟩
theorem Bt {α β : Type} {o : Option α} {g : α → β} {r : β} {d : Option β} (q : ∀ y, o = some y → d = some (g y)) (h : (o.bind fun r => some (g r)) = some r) : d = some r := by
 obtain ⟨y, h1, h2⟩ := Option.bind_eq_some_iff.1 h
 cases h2
 exact q y h1
end
end Go.Proofs.Ytkfoebbjncngjaa.R

