/- One operation is the machine's. No condition. -/
import Derived.Test.YtkfoebbjncngjaaRStepC
namespace Go.Proofs.Ytkfoebbjncngjaa.R
open Go Go.RowKit
set_option linter.unusedVariables false
set_option linter.unusedSimpArgs false
structure SD where
 sg : Sig
 den : Ir sg.ps → Option (Ir sg.rs × N3 sg.ps)
def Ej (P : Program) (f : FuncId) : Prop := ∃ fn, P.funcs[f]? = some fn ∧ (fn.name == "runtime.NumGoroutine") = false ∧ fn.body.isNone = false
def Rw : Operand → Bool
 | .const (.slice none 0 0) => true
 | _ => false
def Lv (P : Program) (s : St) (nid : Nat) (T : TypeId) (x : Operand) : Option (AV × St) :=
 if Rw x then Zy P s nid T else some (s.op x, s)
def Yt (s : St) (x y : Operand) : Option (Bool × Bool) := match s.conc x, s.conc y with
 | some (.bool p), some (.bool q) => some (p, q)
 | _, _ => none
def Lw (s : St) (c x y : Operand) : Option AV := match s.conc c with
 | some (.bool t) => match Yt s x y with
  | some (p, q) => some (.vl (.lf (.c (.bool (bif t then p else q)))))
  | none => some (bif t then s.op x else s.op y)
 | _ => none
def Qu (s : St) (x : Operand) (i : Nat) : Option AV := match s.op x with
 | .tp vs => match vs[i]? with
  | some v => some (.vl v)
  | none => none
 | _ => none
def N8 (s : St) (x : Operand) : Option AV := match s.leaf x with
 | some (.ptr id off) => match s.res id with
  | .box _ _ => some (.vl (.lf (.ptr id off)))
  | _ => none
 | some (.ep t xs i off) => some (.vl (.lf (.ep t xs i off)))
 | some (.rp id i off) => match s.res id with
  | .row _ _ _ => some (.vl (.lf (.rp id i off)))
  | _ => none
 | _ => none
abbrev Cd := Option (List Bool × AV × St)
def lfC (s : St) (x : Option (List Bool × Lf)) : Cd := match x with
 | some (cs, l) => some (cs, .vl (.lf l), s)
 | none => none
def lfS (x : Option (List Bool × Lf × St)) : Cd := match x with
 | some (cs, l, s) => some (cs, .vl (.lf l), s)
 | none => none
def lf0 (x : Option (Lf × St)) : Cd := match x with
 | some (l, s) => some ([], .vl (.lf l), s)
 | none => none
def vC (s : St) (x : Option (List Bool × Value)) : Cd := match x with
 | some (cs, v) => some (cs, .vl (.lf (.c v)), s)
 | none => none
def v0 (s : St) (x : Option Value) : Cd := match x with
 | some v => some ([], .vl (.lf (.c v)), s)
 | none => none
def vl0 (s : St) (x : Option Vl) : Cd := match x with
 | some v => some ([], .vl v, s)
 | none => none
def av0 (s : St) (x : Option AV) : Cd := match x with
 | some v => some ([], v, s)
 | none => none
def avS (x : Option (AV × St)) : Cd := match x with
 | some (v, s) => some ([], v, s)
 | none => none
def stC (x : Option (List Bool × St)) : Cd := match x with
 | some (cs, s) => some (cs, .dead, s)
 | none => none
def Afx (s : St) (x : Operand) : Bool := match s.value x with
 | some (.ag _) => true
 | _ => false
def Agd (s : St) (x : Operand) : Bool := match s.conc x with
 | some (.string _) => true
 | _ => false
def Aad (P : Program) (T : TypeId) : Bool := match P.underlying T with
 | some (.slice _) => true
 | _ => false
def Acv (P : Program) (T : TypeId) : Bool := match P.underlying T with
 | some .string => true
 | _ => false
def Sy (s : St) : List Operand → Option (List Lf)
 | [] => some []
 | x :: r => (s.leaf x).bind fun l => (Sy s r).bind fun ls => some (l :: ls)
def T9 (s : St) (f : Fn) (first captured : List Operand) : Option AV := match f, first with
 | .func f, [] => (Sy s captured).map (AV.fn f)
 | _, _ => none
def Js (P : Program) (s : St) (nid : Nat) (o : Oper) : Cd := match o.op with
 | .move x => avS (Lv P s nid o.type x)
 | .assign x => avS (Lv P s nid o.type x)
 | .pick c x y => av0 s (Lw s c x y)
 | .alloc T => lf0 (X9 P s nid T)
 | .box T x => match s.value x with
  | some v => lf0 (Acj s nid T v)
  | none => none
 | .build T parts => vl0 s (Ya P s T parts)
 | .buildSlice T len parts => if Acs P T len then lf0 (T4 P s nid T parts.toList) else lf0 (Kg P s nid T len parts)
 | .load T x => if Ph s x then lfC s (Yk P s T x) else vl0 s (Tk P s T x)
 | .store T x y => if Ph s x then stC (Pi P s T x y) else stC (Lu P s T x y)
 | .nilCheck x => av0 s (N8 s x)
 | .binOp op T x y U => match op with
  | .add => if Agd s x then vC s (T1 s .add x y) else v0 s (Fb P s o)
  | .quo => vC s (Zv s .quo x y)
  | .rem => vC s (Zv s .rem x y)
  | .shl => vC s (Zv s .shl x y)
  | .eql => if Afx s x then v0 s (Yj P s .eql T x y) else v0 s (Fb P s o)
  | .neq => if Afx s x then v0 s (Yj P s .neq T x y) else v0 s (Fb P s o)
  | _ => v0 s (Fb P s o)
 | .unOp _ _ _ => v0 s (Fb P s o)
 | .convert T U x => if Aad P T then v0 s (N1 P s T U x) else v0 s (Fb P s o)
 | .makeSlice T x y => lfS (Ko P s nid T x y)
 | .slice T x lo hi mx => if Acv P T then vC s (N7 P s T x lo hi mx) else (match mx with
  | none => lfS (T8 P s T x lo hi)
  | some _ => none)
 | .fieldAddr T x f => lf0 ((Ll P s T x f).map fun l => (l, s))
 | .field T x f => vl0 s (X8 P s T x f)
 | .indexAddr T x y => if Mz s x then lfC s (Jo P s T x y) else lfC s (Es P s T x y)
 | .index T x y => vC s (N6 P s T x y)
 | .extract x i => av0 s (Qu s x i)
 | .makeMap T h => (match h with
  | none => lf0 (Qo P s nid T)
  | some _ => none)
 | .mapUpdate T m k v => stC ((T6 P s T m k v).map fun s' => ([], s'))
 | .lookup T m k ok => if ok then none else v0 s (Qp P s T m k)
 | .range T m => lf0 (Yn P s nid T m)
 | .entry it => av0 s (Yo s it)
 | .makeFunc f first captured => av0 s (T9 s f first.toList captured.toList)
 | .call c => match c.callee with
  | .builtin .len => (match c.args.toList, c.argTypes.toList with
   | [x], [T] => if Aad P T then (if Mz s x then v0 s (Qm P s T x) else v0 s (Wi P s T x)) else if Agb P T then v0 s (Jr P s T x) else v0 s (Fb P s o)
   | _, _ => none)
  | .builtin .append => (match c.args.toList, c.argTypes.toList with
   | [x, y], [T, U] => if Acv P U then lfS (Kq P s nid T U x y) else if U = T then (if Mz s x then lfS (Qn P s nid T x y) else lfS (Qq P s nid T x y)) else none
   | _, _ => none)
  | .builtin .delete => (match c.args.toList, c.argTypes.toList with
   | [x, y], [T, U] => stC ((T7 P s T U x y).map fun s' => ([], s'))
   | _, _ => none)
  | .builtin .min => v0 s (Fb P s o)
  | .builtin .max => v0 s (Fb P s o)
  | _ => none
 | _ => none
section
variable {P : Program} {n B : Nat} {Iq : List Nat} {s : St} {g : Gh} {a : Act} {w : World}
def Gd (P : Program) (n B : Nat) (Iq : List Nat) (s : St) (g : Gh) (a : Act) (w : World) (o : Oper) (av : AV) (s' : St) : Prop :=
 ∀ (K : Act → World → Prop) (Q : Exit → Act → World → Prop), (∀ v g' w', Go B Iq s g w s' g' w' → Ax n B Iq s' g' a w' → I7 s' g' w' av v → K (a.put o.dst v) w') → o.wp P a w K Q
theorem Gd.val {o : Oper} {av : AV} {s' : St} {v : Value} {w' : World} {g' : Gh} (hr : (execOp a.eval o).run P w = .ok (.value v) w') (h1 : Go B Iq s g w s' g' w') (h2 : Ax n B Iq s' g' a w') (h3 : I7 s' g' w' av v) : Gd P n B Iq s g a w o av s' := by
 intro K Q hK
 unfold Oper.wp
 rw [hr, Oper.upon_value]
 exact hK v g' w' h1 h2 h3
theorem Gd.skip {o : Oper} {s' : St} {w' : World} {g' : Gh} (hr : (execOp a.eval o).run P w = .ok .skip w') (h1 : Go B Iq s g w s' g' w') (h2 : Ax n B Iq s' g' a w') : Gd P n B Iq s g a w o .dead s' := by
 intro K Q hK
 unfold Oper.wp
 rw [hr, Oper.upon_skip]
 exact hK _ g' w' h1 h2 trivial
theorem Gd.here {o : Oper} {av : AV} {v : Value} (h : Ax n B Iq s g a w) (hr : (execOp a.eval o).run P w = .ok (.value v) w) (h3 : I7 s g w av v) : Gd P n B Iq s g a w o av s :=
 Gd.val hr (Go.refl B Iq s g w) h h3
theorem Wt (h : Ax n B Iq s g a w) {nid : Nat} {T : TypeId} {x : Operand} {av : AV} {s' : St} (e : Lv P s nid T x = some (av, s')) :
  ∃ g', Go B Iq s g w s' g' w ∧ Ax n B Iq s' g' a w ∧ I7 s' g' w av (a.eval x) := by
 unfold Lv at e
 split at e
 ·rename_i hn
  unfold Rw at hn
  split at hn
  ·exact Z0 h e
  ·cases hn
 ·cases e
  exact ⟨g, Go.refl B Iq s g w, h, m6 h x⟩
theorem Abq (h : Ax n B Iq s g a w) {c x y : Operand} {av : AV} (e : Lw s c x y = some av) :
  ∃ t : Bool, a.eval c = .bool t ∧ I7 s g w av (bif t then a.eval x else a.eval y) := by
 unfold Lw at e
 split at e
 ·rename_i t hc
  refine ⟨t, (Bj h hc).1, ?_⟩
  split at e
  ·rename_i p q hb
   cases e
   unfold Yt at hb
   split at hb <;> cases hb
   rename_i hx hy
   rw [(Bj h hx).1, (Bj h hy).1]
   cases t
   ·exact ⟨rfl, rfl⟩
   ·exact ⟨rfl, rfl⟩
  ·cases e
   cases t
   ·exact m6 h y
   ·exact m6 h x
 ·cases e
theorem Yu (h : Ax n B Iq s g a w) {x : Operand} {i : Nat} {av : AV} (e : Qu s x i = some av) :
  ∃ v, (Instr.extract (a.eval x) i).run P w = .ok v w ∧ I7 s g w av v := by
 unfold Qu at e
 split at e
 ·rename_i vs hx
  split at e <;> cases e
  rename_i v hv
  have k := m6 h x
  rw [hx] at k
  obtain ⟨us, hu, hsz, hk⟩ := k
  obtain ⟨u, e1, e2⟩ := hk i v hv
  refine ⟨u, ?_, e2⟩
  rw [hu]
  simp [Instr.extract, e1]
 ·cases e
theorem Vx (h : Ax n B Iq s g a w) {x : Operand} {av : AV} (e : N8 s x = some av) :
  (∃ ad, a.eval x = .pointer (some ad)) ∧ I7 s g w av (a.eval x) := by
 unfold N8 at e
 split at e
 ·rename_i id off hx
  obtain ⟨hl, h1⟩ := Bd h hx
  split at e <;> cases e
  rename_i T ls hr
  refine ⟨?_, hl, h1⟩
  simp only [Bm, hr] at hl
  obtain ⟨b, _, hu⟩ := hl
  exact ⟨_, hu⟩
 ·rename_i t xs i off hx
  obtain ⟨hl, h1⟩ := Bd h hx
  cases e
  refine ⟨?_, hl, h1⟩
  obtain ⟨ad, cs, hu, _⟩ := hl
  exact ⟨_, hu⟩
 ·rename_i id i off hx
  obtain ⟨hl, h1⟩ := Bd h hx
  split at e <;> cases e
  rename_i T t xs hr
  refine ⟨?_, hl, h1⟩
  simp only [Bm, hr] at hl
  obtain ⟨_, b, _, hu⟩ := hl
  exact ⟨_, hu⟩
 ·cases e
theorem Wu (h : Ax n B Iq s g a w) : ∀ {xs : List Operand} {ls : List Lf}, Sy s xs = some ls → Cw s g w ls (xs.map a.eval)
 | [], ls, e => by cases e; trivial
 | x :: r, ls, e => by
  simp only [Sy] at e
  obtain ⟨l, e1, e⟩ := Option.bind_eq_some_iff.1 e
  obtain ⟨ls', e2, e⟩ := Option.bind_eq_some_iff.1 e
  cases e
  exact ⟨Bd h e1, Wu h e2⟩
theorem Sz {x : Option (List Bool × Lf)} {r : AV × St} (e : Fk (lfC s x) = some r) : ∃ l, Fk x = some l ∧ r = (.vl (.lf l), s) := by
 obtain ⟨cs, e1, e2⟩ := A4 e
 unfold lfC at e1
 split at e1 <;> cases e1
 exact ⟨_, by simp [Fk, e2], rfl⟩
theorem Pk {x : Option (List Bool × Lf × St)} {r : AV × St} (e : Fk (lfS x) = some r) : ∃ l s', Fk x = some (l, s') ∧ r = (.vl (.lf l), s') := by
 obtain ⟨cs, e1, e2⟩ := A4 e
 unfold lfS at e1
 split at e1 <;> cases e1
 exact ⟨_, _, by simp [Fk, e2], rfl⟩
theorem Pl {x : Option (List Bool × St)} {r : AV × St} (e : Fk (stC x) = some r) : ∃ s', Fk x = some s' ∧ r = (.dead, s') := by
 obtain ⟨cs, e1, e2⟩ := A4 e
 unfold stC at e1
 split at e1 <;> cases e1
 exact ⟨_, by simp [Fk, e2], rfl⟩
theorem N9 {x : Option (List Bool × Value)} {r : AV × St} (e : Fk (vC s x) = some r) : ∃ v, Fk x = some v ∧ r = (.vl (.lf (.c v)), s) := by
 obtain ⟨cs, e1, e2⟩ := A4 e
 unfold vC at e1
 split at e1 <;> cases e1
 exact ⟨_, by simp [Fk, e2], rfl⟩
theorem Is {x : Option (Lf × St)} {r : AV × St} (e : Fk (lf0 x) = some r) : ∃ l s', x = some (l, s') ∧ r = (.vl (.lf l), s') := by
 obtain ⟨cs, e1, e2⟩ := A4 e
 unfold lf0 at e1
 split at e1 <;> cases e1
 exact ⟨_, _, rfl, rfl⟩
theorem Kr {x : Option Value} {r : AV × St} (e : Fk (v0 s x) = some r) : ∃ v, x = some v ∧ r = (.vl (.lf (.c v)), s) := by
 obtain ⟨cs, e1, e2⟩ := A4 e
 unfold v0 at e1
 split at e1 <;> cases e1
 exact ⟨_, rfl, rfl⟩
theorem S0 {x : Option Vl} {r : AV × St} (e : Fk (vl0 s x) = some r) : ∃ v, x = some v ∧ r = (.vl v, s) := by
 obtain ⟨cs, e1, e2⟩ := A4 e
 unfold vl0 at e1
 split at e1 <;> cases e1
 exact ⟨_, rfl, rfl⟩
theorem M1 {x : Option AV} {r : AV × St} (e : Fk (av0 s x) = some r) : ∃ v, x = some v ∧ r = (v, s) := by
 obtain ⟨cs, e1, e2⟩ := A4 e
 unfold av0 at e1
 split at e1 <;> cases e1
 exact ⟨_, rfl, rfl⟩
theorem S1 {x : Option (AV × St)} {r : AV × St} (e : Fk (avS x) = some r) : x = some r := by
 obtain ⟨cs, e1, e2⟩ := A4 e
 unfold avS at e1
 split at e1 <;> cases e1
 rfl
theorem Aae {x : Option St} {s' : St} (e : Fk (x.map fun s' => (([] : List Bool), s')) = some s') : x = some s' := by
 cases x with
 | none => cases e
 | some y => exact e
theorem Fv {v : Value} (h1 : v.oneCell' = true) : I7 s g w (.vl (.lf (.c v))) v := ⟨rfl, h1⟩
theorem Z8 (h : Ax n B Iq s g a w) {nid : Nat} {o : Oper} {av : AV} {s' : St} (e : Fk (Js P s nid o) = some (av, s')) : Gd P n B Iq s g a w o av s' := by
 obtain ⟨dst, op, type, pos, after, guard⟩ := o
 have viaConc : ∀ {op : Op}, (∀ cs b, op ≠ .select cs b) → Fk (v0 s (Fb P s ⟨dst, op, type, pos, after, guard⟩)) = some (av, s') → Gd P n B Iq s g a w ⟨dst, op, type, pos, after, guard⟩ av s' := by
  intro op hs e
  obtain ⟨v, e1, e2⟩ := Kr e
  cases e2
  obtain ⟨k1, k2⟩ := Abi h hs e1
  exact Gd.here h k1 (Fv k2)
 cases op <;> simp only [Js] at e <;> first | (cases e; done) | skip
 case move x =>
  obtain ⟨g', k1, k2, k3⟩ := Wt h (S1 e)
  exact Gd.val (v := a.eval x) (by simp [execOp]) k1 k2 k3
 case assign x =>
  obtain ⟨g', k1, k2, k3⟩ := Wt h (S1 e)
  exact Gd.val (v := a.eval x) (by simp [execOp]) k1 k2 k3
 case pick c x y =>
  obtain ⟨v, e1, e2⟩ := M1 e
  cases e2
  obtain ⟨t, k1, k2⟩ := Abq h e1
  refine Gd.here h (v := bif t then a.eval x else a.eval y) ?_ k2
  simp only [execOp, k1]
  cases t <;> simp [asBool]
 case alloc T =>
  obtain ⟨l, s1, e1, e2⟩ := Is e
  cases e2
  obtain ⟨x, w', g', k1, k2, k3, k4, k5⟩ := m8 h e1
  exact Gd.val (v := x) (by simp [execOp, k1]) k2 k3 ⟨k4, k5⟩
 case box T x =>
  split at e
  ·rename_i v hv
   obtain ⟨l, s1, e1, e2⟩ := Is e
   cases e2
   obtain ⟨x', w', g', k1, k2, k3, k4, k5⟩ := Acm (P := P) h (Ki h hv) e1
   exact Gd.val (v := x') (by simp [execOp, k1]) k2 k3 ⟨k4, k5⟩
  ·cases e
 case build T parts =>
  obtain ⟨v, e1, e2⟩ := S0 e
  cases e2
  obtain ⟨u, k1, k2⟩ := m9 h e1
  exact Gd.here h (v := u) (by simp only [execOp, Sem.run_bind, k1]; rfl) k2
 case buildSlice T len parts =>
  split at e
  ·rename_i hsl
   have hlen : len = 1 := by
    unfold Acs at hsl
    split at hsl
    ·split at hsl
     ·exact Nat.eq_of_beq_eq_true hsl
     ·cases hsl
    ·cases hsl
   subst hlen
   obtain ⟨l, s1, e1, e2⟩ := Is e
   cases e2
   obtain ⟨u, w', g', k1, k2, k3, k4, k5⟩ := Z3 h e1
   exact Gd.val (v := u) (by simp only [execOp, Sem.run_bind, k1]; rfl) k2 k3 ⟨k4, k5⟩
  ·obtain ⟨l, s1, e1, e2⟩ := Is e
   cases e2
   obtain ⟨u, w', g', k1, k2, k3, k4, k5⟩ := Se h e1
   exact Gd.val (v := u) (by simp only [execOp, Sem.run_bind, k1]; rfl) k2 k3 ⟨k4, k5⟩
 case load T x =>
  split at e
  ·obtain ⟨l, e1, e2⟩ := Sz e
   cases e2
   obtain ⟨u, k1, k2, k3⟩ := o6 h e1
   exact Gd.here h (v := u) (by simp [execOp, k1]) ⟨k2, k3⟩
  ·obtain ⟨v, e1, e2⟩ := S0 e
   cases e2
   obtain ⟨u, k1, k2⟩ := Abj h e1
   exact Gd.here h (v := u) (by simp [execOp, k1]) k2
 case store T x y =>
  split at e
  ·obtain ⟨s1, e1, e2⟩ := Pl e
   cases e2
   obtain ⟨w', g', k1, k2, k3⟩ := Z1 h e1
   exact Gd.skip (by simp [execOp, k1]) k2 k3
  ·obtain ⟨s1, e1, e2⟩ := Pl e
   cases e2
   obtain ⟨w', g', k1, k2, k3⟩ := n5 h (Ys e1)
   exact Gd.skip (by simp [execOp, k1]) k2 k3
 case nilCheck x =>
  obtain ⟨v, e1, e2⟩ := M1 e
  cases e2
  obtain ⟨⟨ad, k1⟩, k2⟩ := Vx h e1
  refine Gd.here h (v := a.eval x) ?_ k2
  simp [execOp, k1]
 case binOp op T x y U =>
  have viaV : ∀ {op : BinOp} {v : Value}, ((do eqGuard op T x y (a.eval x) (a.eval y); binOp op T (a.eval x) (a.eval y)) : Sem Value).run P w = .ok v w ∧ v.oneCell' = true → Gd P n B Iq s g a w ⟨dst, .binOp op T x y U, type, pos, after, guard⟩ (.vl (.lf (.c v))) s := by
   intro op v hv
   refine Gd.here h (v := v) ?_ (Fv hv.2)
   simp only [execOp, Sem.run_bind] at hv ⊢
   rw [hv.1]
   rfl
  have hsel : ∀ (op : BinOp) cs b, Op.binOp op T x y U ≠ .select cs b := by intro op cs b q; cases q
  split at e
  ·split at e
   ·obtain ⟨v, e1, e2⟩ := N9 e
    cases e2
    exact viaV (Zw h e1)
   ·exact viaConc (hsel _) e
  ·obtain ⟨v, e1, e2⟩ := N9 e
   cases e2
   exact viaV (T3 h e1)
  ·obtain ⟨v, e1, e2⟩ := N9 e
   cases e2
   exact viaV (T3 h e1)
  ·obtain ⟨v, e1, e2⟩ := N9 e
   cases e2
   exact viaV (T3 h e1)
  ·split at e
   ·obtain ⟨v, e1, e2⟩ := Kr e
    cases e2
    exact viaV (Wo h e1)
   ·exact viaConc (hsel _) e
  ·split at e
   ·obtain ⟨v, e1, e2⟩ := Kr e
    cases e2
    exact viaV (Wo h e1)
   ·exact viaConc (hsel _) e
  ·exact viaConc (hsel _) e
 case unOp op T x => exact viaConc (by intro cs b q; cases q) e
 case convert T U x =>
  split at e
  ·obtain ⟨v, e1, e2⟩ := Kr e
   cases e2
   obtain ⟨k1, k2⟩ := Vt h e1
   exact Gd.here h (v := v) (by simp [execOp, k1]) (Fv k2)
  ·exact viaConc (by intro cs b q; cases q) e
 case makeSlice T x y =>
  obtain ⟨l, s1, e1, e2⟩ := Pk e
  cases e2
  obtain ⟨u, w', g', k1, k2, k3, k4, k5⟩ := Tt h (Qs e1)
  exact Gd.val (v := u) (by simp [execOp, k1]) k2 k3 ⟨k4, k5⟩
 case slice T x lo hi mx =>
  split at e
  ·obtain ⟨v, e1, e2⟩ := N9 e
   cases e2
   obtain ⟨k1, k2⟩ := Vv h e1
   exact Gd.here h (v := v) (by simp only [execOp, Sem.run_bind, k1]; rfl) (Fv k2)
  ·split at e
   ·obtain ⟨l, s1, e1, e2⟩ := Pk e
    cases e2
    obtain ⟨u, g', k1, k2, k3, k4, k5⟩ := n0 h (Yr e1)
    exact Gd.val (v := u) (by simp only [execOp, Sem.run_bind, Option.map_none, k1]; rfl) k2 k3 ⟨k4, k5⟩
   ·cases e
 case fieldAddr T x f =>
  obtain ⟨l, s1, e1, e2⟩ := Is e
  cases e2
  obtain ⟨l', e3, e4⟩ := Option.map_eq_some_iff.1 e1
  cases e4
  obtain ⟨u, k1, k2, k3⟩ := Tm h e3
  exact Gd.here h (v := u) (by simp [execOp, k1]) ⟨k2, k3⟩
 case field T x f =>
  obtain ⟨v, e1, e2⟩ := S0 e
  cases e2
  obtain ⟨u, k1, k2⟩ := m7 h e1
  exact Gd.here h (v := u) (by simp [execOp, k1]) k2
 case indexAddr T x y =>
  split at e
  ·obtain ⟨l, e1, e2⟩ := Sz e
   cases e2
   obtain ⟨u, k1, k2, k3⟩ := Zz h e1
   exact Gd.here h (v := u) (by simp [execOp, k1]) ⟨k2, k3⟩
  ·obtain ⟨l, e1, e2⟩ := Sz e
   cases e2
   obtain ⟨u, k1, k2, k3⟩ := Tn h (Qr e1)
   exact Gd.here h (v := u) (by simp [execOp, k1]) ⟨k2, k3⟩
 case index T x y =>
  obtain ⟨v, e1, e2⟩ := N9 e
  cases e2
  obtain ⟨k1, k2⟩ := Vu h e1
  exact Gd.here h (v := v) (by simp [execOp, k1]) (Fv k2)
 case extract x i =>
  obtain ⟨v, e1, e2⟩ := M1 e
  cases e2
  obtain ⟨u, k1, k2⟩ := Yu (P := P) h e1
  exact Gd.here h (v := u) (by simp [execOp, k1]) k2
 case makeMap T hint =>
  cases hint with
  | some _ => cases e
  | none =>
   obtain ⟨l, s1, e1, e2⟩ := Is e
   cases e2
   obtain ⟨u, w', g', k1, k2, k3, k4, k5⟩ := Yq h e1
   exact Gd.val (v := u) (by simp [execOp, k1]) k2 k3 ⟨k4, k5⟩
 case mapUpdate T m k v =>
  obtain ⟨s1, e1, e2⟩ := Pl e
  cases e2
  obtain ⟨w', g', k1, k2, k3⟩ := Z5 h (Aae e1)
  exact Gd.skip (by simp [execOp, k1]) k2 k3
 case lookup T m k ok =>
  cases ok with
  | true => cases e
  | false =>
   obtain ⟨v, e1, e2⟩ := Kr e
   cases e2
   obtain ⟨k1, k2⟩ := Yp h e1
   exact Gd.here h (v := v) (by simp [execOp, k1]) (Fv k2)
 case range T m =>
  obtain ⟨l, s1, e1, e2⟩ := Is e
  cases e2
  obtain ⟨u, w', g', k1, k2, k3, k4, k5⟩ := o7 h e1
  exact Gd.val (v := u) (by simp [execOp, k1]) k2 k3 ⟨k4, k5⟩
 case entry it =>
  obtain ⟨av, e1, e2⟩ := M1 e
  cases e2
  obtain ⟨v, k1, k2⟩ := o8 (P := P) h e1
  exact Gd.here h (v := v) (by simp [execOp, k1]) k2
 case makeFunc f first captured =>
  obtain ⟨v, e1, e2⟩ := M1 e
  cases e2
  unfold T9 at e1
  split at e1
  ·rename_i f0 hfirst
   obtain ⟨ls, q1, rfl⟩ := Option.map_eq_some_iff.1 e1
   have hf' : first = #[] := by apply Array.toList_inj.1; simpa using hfirst
   subst hf'
   refine Gd.here h (v := .func (.func f0) #[] (captured.map a.eval)) (by simp [execOp, Instr.makeFunc]) ⟨_, rfl, ?_⟩
   rw [Array.toList_map]
   exact Wu h q1
  ·cases e1
 case call c =>
  obtain ⟨callee, args, argTypes⟩ := c
  simp only at e
  split at e
  ·split at e
   ·rename_i x T ha ht
    have ha' : args = #[x] := by apply Array.toList_inj.1; simpa using ha
    have ht' : argTypes = #[T] := by apply Array.toList_inj.1; simpa using ht
    subst ha' ht'
    split at e
    ·split at e
     ·obtain ⟨v, e1, e2⟩ := Kr e
      cases e2
      obtain ⟨k1, k2⟩ := Abo (ty := type) h e1
      exact Gd.here h (v := v) (by simp [execOp, resolve, invoke, builtin, k1]) (Fv k2)
     ·obtain ⟨v, e1, e2⟩ := Kr e
      cases e2
      obtain ⟨k1, k2⟩ := Acl (ty := type) h e1
      exact Gd.here h (v := v) (by simp [execOp, resolve, invoke, builtin, k1]) (Fv k2)
    ·split at e
     ·obtain ⟨v, e1, e2⟩ := Kr e
      cases e2
      obtain ⟨k1, k2⟩ := Z7 (ty := type) h e1
      exact Gd.here h (v := v) (by simp [execOp, resolve, invoke, builtin, k1]) (Fv k2)
     ·exact viaConc (by intro cs b q; cases q) e
   ·cases e
  ·split at e
   ·rename_i x y T U ha ht
    have ha' : args = #[x, y] := by apply Array.toList_inj.1; simpa using ha
    have ht' : argTypes = #[T, U] := by apply Array.toList_inj.1; simpa using ht
    subst ha' ht'
    split at e
    ·obtain ⟨l, s1, e1, e2⟩ := Pk e
     cases e2
     obtain ⟨u, w', g', k1, k2, k3, k4, k5⟩ := Tq (ty := type) h (Qt e1)
     exact Gd.val (v := u) (by simp [execOp, resolve, invoke, builtin, k1]) k2 k3 ⟨k4, k5⟩
    ·split at e
     ·rename_i hUT
      subst hUT
      split at e
      ·obtain ⟨l, s1, e1, e2⟩ := Pk e
       cases e2
       obtain ⟨u, w', g', k1, k2, k3, k4, k5⟩ := Ym (ty := type) h e1
       exact Gd.val (v := u) (by simp [execOp, resolve, invoke, builtin, k1]) k2 k3 ⟨k4, k5⟩
      ·obtain ⟨l, s1, e1, e2⟩ := Pk e
       cases e2
       obtain ⟨u, w', g', k1, k2, k3, k4, k5⟩ := Zs (ty := type) h (Vw e1)
       exact Gd.val (v := u) (by simp [execOp, resolve, invoke, builtin, k1]) k2 k3 ⟨k4, k5⟩
     ·cases e
   ·cases e
  ·split at e
   ·rename_i x y T U ha ht
    have ha' : args = #[x, y] := by apply Array.toList_inj.1; simpa using ha
    have ht' : argTypes = #[T, U] := by apply Array.toList_inj.1; simpa using ht
    subst ha' ht'
    obtain ⟨s1, e1, e2⟩ := Pl e
    cases e2
    obtain ⟨w', g', k1, k2, k3⟩ := Z6 (ty := type) h (Aae e1)
    exact Gd.val (v := .tuple #[]) (by simp [execOp, resolve, invoke, builtin, k1]) k2 k3 trivial
   ·cases e
  ·exact viaConc (by intro cs b q; cases q) e
  ·exact viaConc (by intro cs b q; cases q) e
  ·cases e
end
end Go.Proofs.Ytkfoebbjncngjaa.R

