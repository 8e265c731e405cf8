/- One operation is the machine's. No condition. -/
import Derived.Test.YteaoabdlcefkhaaGreatRStepC
namespace Go.Proofs.YteaoabdlcefkhaaGreat.R
open Go Go.RowKit
set_option linter.unusedVariables false
set_option linter.unusedSimpArgs false
structure SD where
 sg : Sig
 den : Nc sg.ps → Option (Nc sg.rs × V5 sg.ps)
def Gf (P : Program) (f : FuncId) : Prop := ∃ fn, P.funcs[f]? = some fn ∧ (fn.name == "runtime.NumGoroutine") = false ∧ fn.body.isNone = false
def Afm : Operand → Bool
 | .const (.slice none 0 0) => true
 | _ => false
def Rw (P : Program) (s : St) (nid : Nat) (T : TypeId) (x : Operand) : Option (AV × St) :=
 if Afm x then Air P s nid T else some (s.op x, s)
def Aha (s : St) (x y : Operand) : Option (Bool × Bool) := match s.conc x, s.conc y with
 | some (.bool p), some (.bool q) => some (p, q)
 | _, _ => none
def Rx (s : St) (c x y : Operand) : Option AV := match s.conc c with
 | some (.bool t) => match Aha s x y with
  | some (p, q) => some (.vl (.lf (.c (.bool (bif t then p else q)))))
  | none => some (bif t then s.op x else s.op y)
 | _ => none
def Y5 (s : St) (x : Operand) (i : Nat) : Option AV := match s.op x with
 | .tp vs => match vs[i]? with
  | some v => some (.vl v)
  | none => none
 | _ => none
def U1 (s : St) (x : Operand) : Option AV := match s.leaf x with
 | some (.ptr id off) => match s.res id with
  | .box _ _ => some (.vl (.lf (.ptr id off)))
  | _ => none
 | some (.ep t xs i off) => some (.vl (.lf (.ep t xs i off)))
 | some (.rp id i off) => match s.res id with
  | .row _ _ _ => some (.vl (.lf (.rp id i off)))
  | _ => none
 | _ => none
abbrev Cd := Option (List Bool × AV × St)
def lfC (s : St) (x : Option (List Bool × Lf)) : Cd := match x with
 | some (cs, l) => some (cs, .vl (.lf l), s)
 | none => none
def lfS (x : Option (List Bool × Lf × St)) : Cd := match x with
 | some (cs, l, s) => some (cs, .vl (.lf l), s)
 | none => none
def lf0 (x : Option (Lf × St)) : Cd := match x with
 | some (l, s) => some ([], .vl (.lf l), s)
 | none => none
def vC (s : St) (x : Option (List Bool × Value)) : Cd := match x with
 | some (cs, v) => some (cs, .vl (.lf (.c v)), s)
 | none => none
def v0 (s : St) (x : Option Value) : Cd := match x with
 | some v => some ([], .vl (.lf (.c v)), s)
 | none => none
def vl0 (s : St) (x : Option Vl) : Cd := match x with
 | some v => some ([], .vl v, s)
 | none => none
def av0 (s : St) (x : Option AV) : Cd := match x with
 | some v => some ([], v, s)
 | none => none
def avS (x : Option (AV × St)) : Cd := match x with
 | some (v, s) => some ([], v, s)
 | none => none
def stC (x : Option (List Bool × St)) : Cd := match x with
 | some (cs, s) => some (cs, .dead, s)
 | none => none
def Arz (s : St) (x : Operand) : Bool := match s.value x with
 | some (.ag _) => true
 | _ => false
def Asi (s : St) (x : Operand) : Bool := match s.conc x with
 | some (.string _) => true
 | _ => false
def Amk (P : Program) (T : TypeId) : Bool := match P.underlying T with
 | some (.slice _) => true
 | _ => false
def Aoy (P : Program) (T : TypeId) : Bool := match P.underlying T with
 | some .string => true
 | _ => false
def Aam (s : St) : List Operand → Option (List Lf)
 | [] => some []
 | x :: r => (s.leaf x).bind fun l => (Aam s r).bind fun ls => some (l :: ls)
def Abs (s : St) (f : Fn) (first captured : List Operand) : Option AV := match f, first with
 | .func f, [] => (Aam s captured).map (AV.fn f)
 | _, _ => none
def Oy (P : Program) (s : St) (nid : Nat) (o : Oper) : Cd := match o.op with
 | .move x => avS (Rw P s nid o.type x)
 | .assign x => avS (Rw P s nid o.type x)
 | .pick c x y => av0 s (Rx s c x y)
 | .alloc T => lf0 (Agq P s nid T)
 | .box T x => match s.value x with
  | some v => lf0 (Aon s nid T v)
  | none => none
 | .build T parts => vl0 s (Agr P s T parts)
 | .buildSlice T len parts => if Aow P T len then lf0 (Abm P s nid T parts.toList) else lf0 (P2 P s nid T len parts)
 | .load T x => if Amg s x then lfC s (Ag1 P s T x) else vl0 s (Aa6 P s T x)
 | .store T x y => if Amg s x then stC (Abl P s T x y) else stC (Abr P s T x y)
 | .nilCheck x => av0 s (U1 s x)
 | .binOp op T x y U => match op with
  | .add => if Asi s x then vC s (Abk s .add x y) else v0 s (Ic P s o)
  | .quo => vC s (Ame s .quo x y)
  | .rem => vC s (Ame s .rem x y)
  | .eql => if Arz s x then v0 s (Ag0 P s .eql T x y) else v0 s (Ic P s o)
  | .neq => if Arz s x then v0 s (Ag0 P s .neq T x y) else v0 s (Ic P s o)
  | _ => v0 s (Ic P s o)
 | .unOp _ _ _ => v0 s (Ic P s o)
 | .convert T U x => if Amk P T then v0 s (Uw P s T U x) else v0 s (Ic P s o)
 | .makeSlice T x y => lfS (Qa P s nid T x y)
 | .slice T x lo hi mx => if Aoy P T then vC s (U0 P s T x lo hi mx) else (match mx with
  | none => lfS (Abq P s T x lo hi)
  | some _ => none)
 | .fieldAddr T x f => lf0 ((Rn P s T x f).map fun l => (l, s))
 | .field T x f => vl0 s (Agp P s T x f)
 | .indexAddr T x y => if Td s x then lfC s (Ou P s T x y) else lfC s (Hi P s T x y)
 | .index T x y => vC s (Uz P s T x y)
 | .extract x i => av0 s (Y5 s x i)
 | .makeMap T h => (match h with
  | none => lf0 (Yz P s nid T)
  | some _ => none)
 | .mapUpdate T m k v => stC ((Abo P s T m k v).map fun s' => ([], s'))
 | .lookup T m k ok => if ok then none else v0 s (Y0 P s T m k)
 | .range T m => lf0 (Ag4 P s nid T m)
 | .entry it => av0 s (Ag5 s it)
 | .makeFunc f first captured => av0 s (Abs s f first.toList captured.toList)
 | .call c => match c.callee with
  | .builtin .len => (match c.args.toList, c.argTypes.toList with
   | [x], [T] => if Amk P T then (if Td s x then v0 s (Yx P s T x) else v0 s (Afc P s T x)) else if Asg P T then v0 s (Ox P s T x) else v0 s (Ic P s o)
   | _, _ => none)
  | .builtin .append => (match c.args.toList, c.argTypes.toList with
   | [x, y], [T, U] => if Aoy P U then lfS (Qb P s nid T U x y) else if U = T then (if Td s x then lfS (Yy P s nid T x y) else lfS (Y1 P s nid T x y)) else none
   | _, _ => none)
  | .builtin .delete => (match c.args.toList, c.argTypes.toList with
   | [x, y], [T, U] => stC ((Abp P s T U x y).map fun s' => ([], s'))
   | _, _ => none)
  | .builtin .min => v0 s (Ic P s o)
  | .builtin .max => v0 s (Ic P s o)
  | _ => none
 | _ => none
section
variable {P : Program} {n B : Nat} {Iq : List Nat} {s : St} {g : Gh} {a : Act} {w : World}
def Jx (P : Program) (n B : Nat) (Iq : List Nat) (s : St) (g : Gh) (a : Act) (w : World) (o : Oper) (av : AV) (s' : St) : Prop :=
 ∀ (K : Act → World → Prop) (Q : Exit → Act → World → Prop), (∀ v g' w', Go B Iq s g w s' g' w' → Be n B Iq s' g' a w' → Ob s' g' w' av v → K (a.put o.dst v) w') → o.wp P a w K Q
theorem Jx.val {o : Oper} {av : AV} {s' : St} {v : Value} {w' : World} {g' : Gh} (hr : (execOp a.eval o).run P w = .ok (.value v) w') (h1 : Go B Iq s g w s' g' w') (h2 : Be n B Iq s' g' a w') (h3 : Ob s' g' w' av v) : Jx P n B Iq s g a w o av s' := by
 intro K Q hK
 unfold Oper.wp
 rw [hr, Oper.upon_value]
 exact hK v g' w' h1 h2 h3
theorem Jx.skip {o : Oper} {s' : St} {w' : World} {g' : Gh} (hr : (execOp a.eval o).run P w = .ok .skip w') (h1 : Go B Iq s g w s' g' w') (h2 : Be n B Iq s' g' a w') : Jx P n B Iq s g a w o .dead s' := by
 intro K Q hK
 unfold Oper.wp
 rw [hr, Oper.upon_skip]
 exact hK _ g' w' h1 h2 trivial
theorem Jx.here {o : Oper} {av : AV} {v : Value} (h : Be n B Iq s g a w) (hr : (execOp a.eval o).run P w = .ok (.value v) w) (h3 : Ob s g w av v) : Jx P n B Iq s g a w o av s :=
 Jx.val hr (Go.refl B Iq s g w) h h3
theorem Afn (h : Be n B Iq s g a w) {nid : Nat} {T : TypeId} {x : Operand} {av : AV} {s' : St} (e : Rw P s nid T x = some (av, s')) :
  ∃ g', Go B Iq s g w s' g' w ∧ Be n B Iq s' g' a w ∧ Ob s' g' w av (a.eval x) := by
 unfold Rw at e
 split at e
 ·rename_i hn
  unfold Afm at hn
  split at hn
  ·exact Ait h e
  ·cases hn
 ·cases e
  exact ⟨g, Go.refl B Iq s g w, h, Aku h x⟩
theorem Ans (h : Be n B Iq s g a w) {c x y : Operand} {av : AV} (e : Rx s c x y = some av) :
  ∃ t : Bool, a.eval c = .bool t ∧ Ob s g w av (bif t then a.eval x else a.eval y) := by
 unfold Rx at e
 split at e
 ·rename_i t hc
  refine ⟨t, (Cn h hc).1, ?_⟩
  split at e
  ·rename_i p q hb
   cases e
   unfold Aha at hb
   split at hb <;> cases hb
   rename_i hx hy
   rw [(Cn h hx).1, (Cn h hy).1]
   cases t
   ·exact ⟨rfl, rfl⟩
   ·exact ⟨rfl, rfl⟩
  ·cases e
   cases t
   ·exact Aku h y
   ·exact Aku h x
 ·cases e
theorem Ahb (h : Be n B Iq s g a w) {x : Operand} {i : Nat} {av : AV} (e : Y5 s x i = some av) :
  ∃ v, (Instr.extract (a.eval x) i).run P w = .ok v w ∧ Ob s g w av v := by
 unfold Y5 at e
 split at e
 ·rename_i vs hx
  split at e <;> cases e
  rename_i v hv
  have k := Aku h x
  rw [hx] at k
  obtain ⟨us, hu, hsz, hk⟩ := k
  obtain ⟨u, e1, e2⟩ := hk i v hv
  refine ⟨u, ?_, e2⟩
  rw [hu]
  simp [Instr.extract, e1]
 ·cases e
theorem Aeb (h : Be n B Iq s g a w) {x : Operand} {av : AV} (e : U1 s x = some av) :
  (∃ ad, a.eval x = .pointer (some ad)) ∧ Ob s g w av (a.eval x) := by
 unfold U1 at e
 split at e
 ·rename_i id off hx
  obtain ⟨hl, h1⟩ := B2 h hx
  split at e <;> cases e
  rename_i T ls hr
  refine ⟨?_, hl, h1⟩
  simp only [Cb, hr] at hl
  obtain ⟨b, _, hu⟩ := hl
  exact ⟨_, hu⟩
 ·rename_i t xs i off hx
  obtain ⟨hl, h1⟩ := B2 h hx
  cases e
  refine ⟨?_, hl, h1⟩
  obtain ⟨ad, cs, hu, _⟩ := hl
  exact ⟨_, hu⟩
 ·rename_i id i off hx
  obtain ⟨hl, h1⟩ := B2 h hx
  split at e <;> cases e
  rename_i T t xs hr
  refine ⟨?_, hl, h1⟩
  simp only [Cb, hr] at hl
  obtain ⟨_, b, _, hu⟩ := hl
  exact ⟨_, hu⟩
 ·cases e
theorem Afo (h : Be n B Iq s g a w) : ∀ {xs : List Operand} {ls : List Lf}, Aam s xs = some ls → Eo s g w ls (xs.map a.eval)
 | [], ls, e => by cases e; trivial
 | x :: r, ls, e => by
  simp only [Aam] at e
  obtain ⟨l, e1, e⟩ := Option.bind_eq_some_iff.1 e
  obtain ⟨ls', e2, e⟩ := Option.bind_eq_some_iff.1 e
  cases e
  exact ⟨B2 h e1, Afo h e2⟩
theorem Aan {x : Option (List Bool × Lf)} {r : AV × St} (e : Iy (lfC s x) = some r) : ∃ l, Iy x = some l ∧ r = (.vl (.lf l), s) := by
 obtain ⟨cs, e1, e2⟩ := Bx e
 unfold lfC at e1
 split at e1 <;> cases e1
 exact ⟨_, by simp [Iy, e2], rfl⟩
theorem Wf {x : Option (List Bool × Lf × St)} {r : AV × St} (e : Iy (lfS x) = some r) : ∃ l s', Iy x = some (l, s') ∧ r = (.vl (.lf l), s') := by
 obtain ⟨cs, e1, e2⟩ := Bx e
 unfold lfS at e1
 split at e1 <;> cases e1
 exact ⟨_, _, by simp [Iy, e2], rfl⟩
theorem Aao {x : Option (List Bool × St)} {r : AV × St} (e : Iy (stC x) = some r) : ∃ s', Iy x = some s' ∧ r = (.dead, s') := by
 obtain ⟨cs, e1, e2⟩ := Bx e
 unfold stC at e1
 split at e1 <;> cases e1
 exact ⟨_, by simp [Iy, e2], rfl⟩
theorem Y6 {x : Option (List Bool × Value)} {r : AV × St} (e : Iy (vC s x) = some r) : ∃ v, Iy x = some v ∧ r = (.vl (.lf (.c v)), s) := by
 obtain ⟨cs, e1, e2⟩ := Bx e
 unfold vC at e1
 split at e1 <;> cases e1
 exact ⟨_, by simp [Iy, e2], rfl⟩
theorem Nd {x : Option (Lf × St)} {r : AV × St} (e : Iy (lf0 x) = some r) : ∃ l s', x = some (l, s') ∧ r = (.vl (.lf l), s') := by
 obtain ⟨cs, e1, e2⟩ := Bx e
 unfold lf0 at e1
 split at e1 <;> cases e1
 exact ⟨_, _, rfl, rfl⟩
theorem Qc {x : Option Value} {r : AV × St} (e : Iy (v0 s x) = some r) : ∃ v, x = some v ∧ r = (.vl (.lf (.c v)), s) := by
 obtain ⟨cs, e1, e2⟩ := Bx e
 unfold v0 at e1
 split at e1 <;> cases e1
 exact ⟨_, rfl, rfl⟩
theorem Aap {x : Option Vl} {r : AV × St} (e : Iy (vl0 s x) = some r) : ∃ v, x = some v ∧ r = (.vl v, s) := by
 obtain ⟨cs, e1, e2⟩ := Bx e
 unfold vl0 at e1
 split at e1 <;> cases e1
 exact ⟨_, rfl, rfl⟩
theorem Tf {x : Option AV} {r : AV × St} (e : Iy (av0 s x) = some r) : ∃ v, x = some v ∧ r = (v, s) := by
 obtain ⟨cs, e1, e2⟩ := Bx e
 unfold av0 at e1
 split at e1 <;> cases e1
 exact ⟨_, rfl, rfl⟩
theorem Aaq {x : Option (AV × St)} {r : AV × St} (e : Iy (avS x) = some r) : x = some r := by
 obtain ⟨cs, e1, e2⟩ := Bx e
 unfold avS at e1
 split at e1 <;> cases e1
 rfl
theorem Aml {x : Option St} {s' : St} (e : Iy (x.map fun s' => (([] : List Bool), s')) = some s') : x = some s' := by
 cases x with
 | none => cases e
 | some y => exact e
theorem I1 {v : Value} (h1 : v.oneCell' = true) : Ob s g w (.vl (.lf (.c v))) v := ⟨rfl, h1⟩
theorem Ai1 (h : Be n B Iq s g a w) {nid : Nat} {o : Oper} {av : AV} {s' : St} (e : Iy (Oy P s nid o) = some (av, s')) : Jx P n B Iq s g a w o av s' := by
 obtain ⟨dst, op, type, pos, after, guard⟩ := o
 have viaConc : ∀ {op : Op}, (∀ cs b, op ≠ .select cs b) → Iy (v0 s (Ic P s ⟨dst, op, type, pos, after, guard⟩)) = some (av, s') → Jx P n B Iq s g a w ⟨dst, op, type, pos, after, guard⟩ av s' := by
  intro op hs e
  obtain ⟨v, e1, e2⟩ := Qc e
  cases e2
  obtain ⟨k1, k2⟩ := Ank h hs e1
  exact Jx.here h k1 (I1 k2)
 cases op <;> simp only [Oy] at e <;> first | (cases e; done) | skip
 case move x =>
  obtain ⟨g', k1, k2, k3⟩ := Afn h (Aaq e)
  exact Jx.val (v := a.eval x) (by simp [execOp]) k1 k2 k3
 case assign x =>
  obtain ⟨g', k1, k2, k3⟩ := Afn h (Aaq e)
  exact Jx.val (v := a.eval x) (by simp [execOp]) k1 k2 k3
 case pick c x y =>
  obtain ⟨v, e1, e2⟩ := Tf e
  cases e2
  obtain ⟨t, k1, k2⟩ := Ans h e1
  refine Jx.here h (v := bif t then a.eval x else a.eval y) ?_ k2
  simp only [execOp, k1]
  cases t <;> simp [asBool]
 case alloc T =>
  obtain ⟨l, s1, e1, e2⟩ := Nd e
  cases e2
  obtain ⟨x, w', g', k1, k2, k3, k4, k5⟩ := Akw h e1
  exact Jx.val (v := x) (by simp [execOp, k1]) k2 k3 ⟨k4, k5⟩
 case box T x =>
  split at e
  ·rename_i v hv
   obtain ⟨l, s1, e1, e2⟩ := Nd e
   cases e2
   obtain ⟨x', w', g', k1, k2, k3, k4, k5⟩ := Aoq (P := P) h (P4 h hv) e1
   exact Jx.val (v := x') (by simp [execOp, k1]) k2 k3 ⟨k4, k5⟩
  ·cases e
 case build T parts =>
  obtain ⟨v, e1, e2⟩ := Aap e
  cases e2
  obtain ⟨u, k1, k2⟩ := Akx h e1
  exact Jx.here h (v := u) (by simp only [execOp, Sem.run_bind, k1]; rfl) k2
 case buildSlice T len parts =>
  split at e
  ·rename_i hsl
   have hlen : len = 1 := by
    unfold Aow at hsl
    split at hsl
    ·split at hsl
     ·exact Nat.eq_of_beq_eq_true hsl
     ·cases hsl
    ·cases hsl
   subst hlen
   obtain ⟨l, s1, e1, e2⟩ := Nd e
   cases e2
   obtain ⟨u, w', g', k1, k2, k3, k4, k5⟩ := Aiw h e1
   exact Jx.val (v := u) (by simp only [execOp, Sem.run_bind, k1]; rfl) k2 k3 ⟨k4, k5⟩
  ·obtain ⟨l, s1, e1, e2⟩ := Nd e
   cases e2
   obtain ⟨u, w', g', k1, k2, k3, k4, k5⟩ := l9 h e1
   exact Jx.val (v := u) (by simp only [execOp, Sem.run_bind, k1]; rfl) k2 k3 ⟨k4, k5⟩
 case load T x =>
  split at e
  ·obtain ⟨l, e1, e2⟩ := Aan e
   cases e2
   obtain ⟨u, k1, k2, k3⟩ := Ak4 h e1
   exact Jx.here h (v := u) (by simp [execOp, k1]) ⟨k2, k3⟩
  ·obtain ⟨v, e1, e2⟩ := Aap e
   cases e2
   obtain ⟨u, k1, k2⟩ := Anl h e1
   exact Jx.here h (v := u) (by simp [execOp, k1]) k2
 case store T x y =>
  split at e
  ·obtain ⟨s1, e1, e2⟩ := Aao e
   cases e2
   obtain ⟨w', g', k1, k2, k3⟩ := Aiu h e1
   exact Jx.skip (by simp [execOp, k1]) k2 k3
  ·obtain ⟨s1, e1, e2⟩ := Aao e
   cases e2
   obtain ⟨w', g', k1, k2, k3⟩ := Ak0 h (Ag9 e1)
   exact Jx.skip (by simp [execOp, k1]) k2 k3
 case nilCheck x =>
  obtain ⟨v, e1, e2⟩ := Tf e
  cases e2
  obtain ⟨⟨ad, k1⟩, k2⟩ := Aeb h e1
  refine Jx.here h (v := a.eval x) ?_ k2
  simp [execOp, k1]
 case binOp op T x y U =>
  have viaV : ∀ {op : BinOp} {v : Value}, ((do eqGuard op T x y (a.eval x) (a.eval y); binOp op T (a.eval x) (a.eval y)) : Sem Value).run P w = .ok v w ∧ v.oneCell' = true → Jx P n B Iq s g a w ⟨dst, .binOp op T x y U, type, pos, after, guard⟩ (.vl (.lf (.c v))) s := by
   intro op v hv
   refine Jx.here h (v := v) ?_ (I1 hv.2)
   simp only [execOp, Sem.run_bind] at hv ⊢
   rw [hv.1]
   rfl
  have hsel : ∀ (op : BinOp) cs b, Op.binOp op T x y U ≠ .select cs b := by intro op cs b q; cases q
  split at e
  ·split at e
   ·obtain ⟨v, e1, e2⟩ := Y6 e
    cases e2
    exact viaV (Aio h e1)
   ·exact viaConc (hsel _) e
  ·obtain ⟨v, e1, e2⟩ := Y6 e
   cases e2
   exact viaV (Aip h e1)
  ·obtain ⟨v, e1, e2⟩ := Y6 e
   cases e2
   exact viaV (Aip h e1)
  ·split at e
   ·obtain ⟨v, e1, e2⟩ := Qc e
    cases e2
    exact viaV (Afi h e1)
   ·exact viaConc (hsel _) e
  ·split at e
   ·obtain ⟨v, e1, e2⟩ := Qc e
    cases e2
    exact viaV (Afi h e1)
   ·exact viaConc (hsel _) e
  ·exact viaConc (hsel _) e
 case unOp op T x => exact viaConc (by intro cs b q; cases q) e
 case convert T U x =>
  split at e
  ·obtain ⟨v, e1, e2⟩ := Qc e
   cases e2
   obtain ⟨k1, k2⟩ := Ad7 h e1
   exact Jx.here h (v := v) (by simp [execOp, k1]) (I1 k2)
  ·exact viaConc (by intro cs b q; cases q) e
 case makeSlice T x y =>
  obtain ⟨l, s1, e1, e2⟩ := Wf e
  cases e2
  obtain ⟨u, w', g', k1, k2, k3, k4, k5⟩ := Abe h (Y3 e1)
  exact Jx.val (v := u) (by simp [execOp, k1]) k2 k3 ⟨k4, k5⟩
 case slice T x lo hi mx =>
  split at e
  ·obtain ⟨v, e1, e2⟩ := Y6 e
   cases e2
   obtain ⟨k1, k2⟩ := Ad9 h e1
   exact Jx.here h (v := v) (by simp only [execOp, Sem.run_bind, k1]; rfl) (I1 k2)
  ·split at e
   ·obtain ⟨l, s1, e1, e2⟩ := Wf e
    cases e2
    obtain ⟨u, g', k1, k2, k3, k4, k5⟩ := Aky h (Ag8 e1)
    exact Jx.val (v := u) (by simp only [execOp, Sem.run_bind, Option.map_none, k1]; rfl) k2 k3 ⟨k4, k5⟩
   ·cases e
 case fieldAddr T x f =>
  obtain ⟨l, s1, e1, e2⟩ := Nd e
  cases e2
  obtain ⟨l', e3, e4⟩ := Option.map_eq_some_iff.1 e1
  cases e4
  obtain ⟨u, k1, k2, k3⟩ := Aa8 h e3
  exact Jx.here h (v := u) (by simp [execOp, k1]) ⟨k2, k3⟩
 case field T x f =>
  obtain ⟨v, e1, e2⟩ := Aap e
  cases e2
  obtain ⟨u, k1, k2⟩ := Akv h e1
  exact Jx.here h (v := u) (by simp [execOp, k1]) k2
 case indexAddr T x y =>
  split at e
  ·obtain ⟨l, e1, e2⟩ := Aan e
   cases e2
   obtain ⟨u, k1, k2, k3⟩ := Ais h e1
   exact Jx.here h (v := u) (by simp [execOp, k1]) ⟨k2, k3⟩
  ·obtain ⟨l, e1, e2⟩ := Aan e
   cases e2
   obtain ⟨u, k1, k2, k3⟩ := Aa9 h (Y2 e1)
   exact Jx.here h (v := u) (by simp [execOp, k1]) ⟨k2, k3⟩
 case index T x y =>
  obtain ⟨v, e1, e2⟩ := Y6 e
  cases e2
  obtain ⟨k1, k2⟩ := Ad8 h e1
  exact Jx.here h (v := v) (by simp [execOp, k1]) (I1 k2)
 case extract x i =>
  obtain ⟨v, e1, e2⟩ := Tf e
  cases e2
  obtain ⟨u, k1, k2⟩ := Ahb (P := P) h e1
  exact Jx.here h (v := u) (by simp [execOp, k1]) k2
 case makeMap T hint =>
  cases hint with
  | some _ => cases e
  | none =>
   obtain ⟨l, s1, e1, e2⟩ := Nd e
   cases e2
   obtain ⟨u, w', g', k1, k2, k3, k4, k5⟩ := Ag7 h e1
   exact Jx.val (v := u) (by simp [execOp, k1]) k2 k3 ⟨k4, k5⟩
 case mapUpdate T m k v =>
  obtain ⟨s1, e1, e2⟩ := Aao e
  cases e2
  obtain ⟨w', g', k1, k2, k3⟩ := Aiy h (Aml e1)
  exact Jx.skip (by simp [execOp, k1]) k2 k3
 case lookup T m k ok =>
  cases ok with
  | true => cases e
  | false =>
   obtain ⟨v, e1, e2⟩ := Qc e
   cases e2
   obtain ⟨k1, k2⟩ := Ag6 h e1
   exact Jx.here h (v := v) (by simp [execOp, k1]) (I1 k2)
 case range T m =>
  obtain ⟨l, s1, e1, e2⟩ := Nd e
  cases e2
  obtain ⟨u, w', g', k1, k2, k3, k4, k5⟩ := Ak5 h e1
  exact Jx.val (v := u) (by simp [execOp, k1]) k2 k3 ⟨k4, k5⟩
 case entry it =>
  obtain ⟨av, e1, e2⟩ := Tf e
  cases e2
  obtain ⟨v, k1, k2⟩ := Ak6 (P := P) h e1
  exact Jx.here h (v := v) (by simp [execOp, k1]) k2
 case makeFunc f first captured =>
  obtain ⟨v, e1, e2⟩ := Tf e
  cases e2
  unfold Abs at e1
  split at e1
  ·rename_i f0 hfirst
   obtain ⟨ls, q1, rfl⟩ := Option.map_eq_some_iff.1 e1
   have hf' : first = #[] := by apply Array.toList_inj.1; simpa using hfirst
   subst hf'
   refine Jx.here h (v := .func (.func f0) #[] (captured.map a.eval)) (by simp [execOp, Instr.makeFunc]) ⟨_, rfl, ?_⟩
   rw [Array.toList_map]
   exact Afo h q1
  ·cases e1
 case call c =>
  obtain ⟨callee, args, argTypes⟩ := c
  simp only at e
  split at e
  ·split at e
   ·rename_i x T ha ht
    have ha' : args = #[x] := by apply Array.toList_inj.1; simpa using ha
    have ht' : argTypes = #[T] := by apply Array.toList_inj.1; simpa using ht
    subst ha' ht'
    split at e
    ·split at e
     ·obtain ⟨v, e1, e2⟩ := Qc e
      cases e2
      obtain ⟨k1, k2⟩ := Anq (ty := type) h e1
      exact Jx.here h (v := v) (by simp [execOp, resolve, invoke, builtin, k1]) (I1 k2)
     ·obtain ⟨v, e1, e2⟩ := Qc e
      cases e2
      obtain ⟨k1, k2⟩ := Aop (ty := type) h e1
      exact Jx.here h (v := v) (by simp [execOp, resolve, invoke, builtin, k1]) (I1 k2)
    ·split at e
     ·obtain ⟨v, e1, e2⟩ := Qc e
      cases e2
      obtain ⟨k1, k2⟩ := Ai0 (ty := type) h e1
      exact Jx.here h (v := v) (by simp [execOp, resolve, invoke, builtin, k1]) (I1 k2)
     ·exact viaConc (by intro cs b q; cases q) e
   ·cases e
  ·split at e
   ·rename_i x y T U ha ht
    have ha' : args = #[x, y] := by apply Array.toList_inj.1; simpa using ha
    have ht' : argTypes = #[T, U] := by apply Array.toList_inj.1; simpa using ht
    subst ha' ht'
    split at e
    ·obtain ⟨l, s1, e1, e2⟩ := Wf e
     cases e2
     obtain ⟨u, w', g', k1, k2, k3, k4, k5⟩ := Abc (ty := type) h (Y4 e1)
     exact Jx.val (v := u) (by simp [execOp, resolve, invoke, builtin, k1]) k2 k3 ⟨k4, k5⟩
    ·split at e
     ·rename_i hUT
      subst hUT
      split at e
      ·obtain ⟨l, s1, e1, e2⟩ := Wf e
       cases e2
       obtain ⟨u, w', g', k1, k2, k3, k4, k5⟩ := Ag3 (ty := type) h e1
       exact Jx.val (v := u) (by simp [execOp, resolve, invoke, builtin, k1]) k2 k3 ⟨k4, k5⟩
      ·obtain ⟨l, s1, e1, e2⟩ := Wf e
       cases e2
       obtain ⟨u, w', g', k1, k2, k3, k4, k5⟩ := Ail (ty := type) h (Aea e1)
       exact Jx.val (v := u) (by simp [execOp, resolve, invoke, builtin, k1]) k2 k3 ⟨k4, k5⟩
     ·cases e
   ·cases e
  ·split at e
   ·rename_i x y T U ha ht
    have ha' : args = #[x, y] := by apply Array.toList_inj.1; simpa using ha
    have ht' : argTypes = #[T, U] := by apply Array.toList_inj.1; simpa using ht
    subst ha' ht'
    obtain ⟨s1, e1, e2⟩ := Aao e
    cases e2
    obtain ⟨w', g', k1, k2, k3⟩ := Aiz (ty := type) h (Aml e1)
    exact Jx.val (v := .tuple #[]) (by simp [execOp, resolve, invoke, builtin, k1]) k2 k3 trivial
   ·cases e
  ·exact viaConc (by intro cs b q; cases q) e
  ·exact viaConc (by intro cs b q; cases q) e
  ·cases e
end
end Go.Proofs.YteaoabdlcefkhaaGreat.R

