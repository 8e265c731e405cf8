/- Short forms: tables, patterns and loops, listed. No condition. -/
import Derived.Test.YtkfoebbjncngjaaRBld
import Derived.KernelRfl
namespace Go.Proofs.Ytkfoebbjncngjaa.R
open Go Go.RowKit Go.Proofs
set_option linter.unusedVariables false
abbrev D4 (P : Program) (n : FuncId) (sd : SD) : Prop := Ec P n ∧ L4 P n sd.sg sd.den
def tbF : List (FuncId × SD) → FuncId → Option SD
 | [], _ => none
 | p :: r, f => if f = p.1 then some p.2 else tbF r f
def Aia (P : Program) : List (FuncId × SD) → Prop
 | [] => True
 | p :: r => D4 P p.1 p.2 ∧ Aia P r
theorem Ae0 {P : Program} : ∀ {l : List (FuncId × SD)}, Aia P l → ∀ f d, tbF l f = some d → Ec P f ∧ L4 P f d.sg d.den
 | [], _, f, d, h => by cases h
 | p :: r, ⟨a, b⟩, f, d, h => by
  unfold tbF at h
  split at h
  ·rename_i e; subst e; cases h; exact a
  ·exact Ae0 b f d h
def tb (l : List (FuncId × SD)) : Tb := Tb.of (tbF l)
theorem B8 {P : Program} {l : List (FuncId × SD)} (h : Aia P l) : Az P (tb l) := Az.of (Ae0 h)
abbrev p0 : Pat := ⟨[], [], []⟩
def Ais : List (Nat × Pat) → Nat → Pat
 | [], _ => p0
 | p :: r, e => if e = p.1 then p.2 else Ais r e
def I4 : List (Nat × Pat × List (Nat × Pat)) → Nat → Pat × (Nat → Pat)
 | [], _ => (p0, fun _ => p0)
 | p :: r, k => if k = p.1 then (p.2.1, Ais p.2.2) else I4 r k
def Ph {R : Type} (p : Pat × (Nat → Pat)) (e : Ex) (i : Nat) (k : Kt R) (d : (p.2 i).D) : Option R := k e ((p.2 i).st d) (p.2 i).nid
def Adb (P : Program) (R : Type) (n np : Nat) (pat : Nat → Pat × (Nat → Pat)) (L : Lt R pat) : List Code → Prop
 | [] => True
 | c :: r => Bg P R n np pat L c ∧ Adb P R n np pat L r
section
variable {P : Program} {R : Type} {n np : Nat}
theorem Adb.all {pat : Nat → Pat × (Nat → Pat)} {L : Lt R pat} : ∀ {l : List Code}, Adb P R n np pat L l → ∀ c ∈ l, Bg P R n np pat L c
 | [], _, c, h => by cases h
 | d :: r, ⟨a, b⟩, c, h => by
  rcases List.mem_cons.1 h with rfl | h
  ·exact a
  ·exact Adb.all b c h
theorem Ed {cfg : Cfg} {L : Lt R cfg.pat} {c : Code} (key : Nat) (ls : List Code) {E : Type} (T : {S : Type} → ((cfg.pat key).1.D → Option S) → (E → Option S) → (cfg.pat key).1.D → Option S)
  (lo : Nat → (cfg.pat key).1.D → Option E) (fu : (cfg.pat key).1.D → Nat) (ou : Kt R → E → Option R) (hs : Az P cfg.sigs) (hls' : Adb P R n np cfg.pat L ls)
  (na : ∀ (f : E → Option R) (NX : (cfg.pat key).1.D → Option E) d, T (fun d => (NX d).bind f) f d = (T NX some d).bind f)
  (rd : ∀ nx k d, ev P cfg L c ((cfg.pat key).1.st d) (cfg.pat key).1.nid (Aa0 np (cfg.pat key) nx k) = T (fun d => nx d k) (ou k) d)
  (hL : ∀ d k, L key d k = (lo (fu d) d).bind (ou k) := by exact fun _ _ => rfl)
  (l0 : ∀ d, lo 0 d = none := by exact fun _ => rfl) (l1 : ∀ m d, lo (m + 1) d = T (lo m) some d := by exact fun _ _ => rfl)
  (hkey : Db c = key := by kernel_rfl) (hm : P.follows .mixedOrders = true := by kernel_rfl) (hn : cfg.n = n := by rfl) (hnp : cfg.np = np := by rfl) (hls : Aw c = ls := by kernel_rfl) : Bg P R n np cfg.pat L c := by
 have lp : ∀ (m : Nat) (d : (cfg.pat key).1.D) (k : Kt R), Sw np (cfg.pat key) (fun s nid k => ev P cfg L c s nid k) m d k = (lo m d).bind (ou k) := by
  intro m
  induction m with
  | zero => intro d k; rw [l0]; rfl
  | succ m ih =>
   intro d k
   rw [l1, ← na]
   refine Eq.trans ?_ (congrArg (fun F => T F (ou k) d) (funext fun d => ih d k))
   exact rd _ k d
 refine Aev hkey hm hs hn hnp (fun d k r h => ⟨fu d, ?_⟩) (fun c' hc' => ?_)
 ·rw [lp, ← hL]; exact h
 ·rw [hls] at hc'; exact hls'.all c' hc'
theorem B9 {sigs : Tb} {f : FuncId} {fn : Func} {sd : SD} {pat : Nat → Pat × (Nat → Pat)} (ls : List Code) (L : Lt (I8 sd.sg.rs × Og sd.sg.ps) pat) (hs : Az P sigs)
  (hL : Adb P (I8 sd.sg.rs × Og sd.sg.ps) fn.ntmps (En sd.sg.ps) pat L ls) (hf : P.funcs[f]? = some fn) {de : I8 sd.sg.ps → Option (I8 sd.sg.rs × Og sd.sg.ps)} (hden : ∀ x r, sd.den x = some r → de x = some r)
  (he : ∀ x, Aet P sigs pat sd.sg fn L x = de x) (hm : P.follows .mixedOrders = true := by kernel_rfl) (hname : (fn.name == "runtime.NumGoroutine") = false := by kernel_rfl) (hbody : fn.body.isNone = false := by kernel_rfl)
  (hls : Aw (Cf fn) = ls := by kernel_rfl) : D4 P f sd :=
 Aeu (pat := pat) hm hs hf hname hbody fun x r hx => ⟨L, ⟨fun c hc => hL.all c (by rw [hls] at hc; exact hc), (he x).trans (hden x r hx)⟩⟩
theorem D6 {α β : Type} {o : Option α} {g : α → β} {r : β} {d : Option β} (q : ∀ y, o = some y → d = some (g y)) (h : (o.bind fun r => some (g r)) = some r) : d = some r := by
 obtain ⟨y, h1, h2⟩ := Option.bind_eq_some_iff.1 h
 cases h2
 exact q y h1
end
end Go.Proofs.Ytkfoebbjncngjaa.R

