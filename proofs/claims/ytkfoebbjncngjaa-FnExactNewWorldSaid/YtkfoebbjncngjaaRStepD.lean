/- One operation is the machine's. No condition. -/
import Derived.Test.YtkfoebbjncngjaaRStepC
namespace Go.Proofs.Ytkfoebbjncngjaa.R
open Go Go.RowKit
set_option linter.unusedVariables false
set_option linter.unusedSimpArgs false
structure SD where
 sg : Sig
 den : Hn sg.ps → Option (Hn sg.rs × L2 sg.ps)
def C9 (P : Program) (f : FuncId) : Prop := ∃ fn, P.funcs[f]? = some fn ∧ (fn.name == "runtime.NumGoroutine") = false ∧ fn.body.isNone = false
def Qe : Operand → Bool
 | .const (.slice none 0 0) => true
 | _ => false
def Ka (P : Program) (s : St) (nid : Nat) (T : TypeId) (x : Operand) : Option (AV × St) :=
 if Qe x then W6 P s nid T else some (s.op x, s)
def Wd (s : St) (x y : Operand) : Option (Bool × Bool) := match s.conc x, s.conc y with
 | some (.bool p), some (.bool q) => some (p, q)
 | _, _ => none
def Kb (s : St) (c x y : Operand) : Option AV := match s.conc c with
 | some (.bool t) => match Wd s x y with
  | some (p, q) => some (.vl (.lf (.c (.bool (bif t then p else q)))))
  | none => some (bif t then s.op x else s.op y)
 | _ => none
def O9 (s : St) (x : Operand) (i : Nat) : Option AV := match s.op x with
 | .tp vs => match vs[i]? with
  | some v => some (.vl v)
  | none => none
 | _ => none
def L7 (s : St) (x : Operand) : Option AV := match s.leaf x with
 | some (.ptr id off) => match s.res id with
  | .box _ _ => some (.vl (.lf (.ptr id off)))
  | _ => none
 | some (.ep t xs i off) => some (.vl (.lf (.ep t xs i off)))
 | some (.rp id i off) => match s.res id with
  | .row _ _ _ => some (.vl (.lf (.rp id i off)))
  | _ => none
 | _ => none
abbrev Cd := Option (List Bool × AV × St)
def lfC (s : St) (x : Option (List Bool × Lf)) : Cd := match x with
 | some (cs, l) => some (cs, .vl (.lf l), s)
 | none => none
def lfS (x : Option (List Bool × Lf × St)) : Cd := match x with
 | some (cs, l, s) => some (cs, .vl (.lf l), s)
 | none => none
def lf0 (x : Option (Lf × St)) : Cd := match x with
 | some (l, s) => some ([], .vl (.lf l), s)
 | none => none
def vC (s : St) (x : Option (List Bool × Value)) : Cd := match x with
 | some (cs, v) => some (cs, .vl (.lf (.c v)), s)
 | none => none
def v0 (s : St) (x : Option Value) : Cd := match x with
 | some v => some ([], .vl (.lf (.c v)), s)
 | none => none
def vl0 (s : St) (x : Option Vl) : Cd := match x with
 | some v => some ([], .vl v, s)
 | none => none
def j5 (s : St) (x : Option AV) : Cd := match x with
 | some v => some ([], v, s)
 | none => none
def avS (x : Option (AV × St)) : Cd := match x with
 | some (v, s) => some ([], v, s)
 | none => none
def stC (x : Option (List Bool × St)) : Cd := match x with
 | some (cs, s) => some (cs, .dead, s)
 | none => none
def Abc (s : St) (x : Operand) : Bool := match s.value x with
 | some (.ag _) => true
 | _ => false
def Abt (s : St) (x : Operand) : Bool := match s.conc x with
 | some (.string _) => true
 | _ => false
def Uv (P : Program) (T : TypeId) : Bool := match P.underlying T with
 | some (.slice _) => true
 | _ => false
def m6 (P : Program) (T : TypeId) : Bool := match P.underlying T with
 | some .string => true
 | _ => false
def Rq (s : St) : List Operand → Option (List Lf)
 | [] => some []
 | x :: r => (s.leaf x).bind fun l => (Rq s r).bind fun ls => some (l :: ls)
def Ss (s : St) (f : Fn) (first captured : List Operand) : Option AV := match f, first with
 | .func f, [] => (Rq s captured).map (AV.fn f)
 | _, _ => none
def Il (P : Program) (s : St) (nid : Nat) (o : Oper) : Cd := match o.op with
 | .move x => avS (Ka P s nid o.type x)
 | .assign x => avS (Ka P s nid o.type x)
 | .pick c x y => j5 s (Kb s c x y)
 | .alloc T => lf0 (Vs P s nid T)
 | .box T x => match s.value x with
  | some v => lf0 (j8 s nid T v)
  | none => none
 | .build T parts => vl0 s (Vt P s T parts)
 | .buildSlice T len parts => if l9 P T len then lf0 (Sm P s nid T parts.toList) else lf0 (I4 P s nid T len parts)
 | .load T x => if Na s x then lfC s (V2 P s T x) else vl0 s (R5 P s T x)
 | .store T x y => if Na s x then stC (Nb P s T x y) else stC (J9 P s T x y)
 | .nilCheck x => j5 s (L7 s x)
 | .binOp op T x y U => match op with
  | .add => if Abt s x then vC s (Sj s .add x y) else v0 s (Ef P s o)
  | .quo => vC s (W3 s .quo x y)
  | .rem => vC s (W3 s .rem x y)
  | .shl => vC s (W3 s .shl x y)
  | .eql => if Abc s x then v0 s (V1 P s .eql T x y) else v0 s (Ef P s o)
  | .neq => if Abc s x then v0 s (V1 P s .neq T x y) else v0 s (Ef P s o)
  | _ => v0 s (Ef P s o)
 | .unOp _ _ _ => v0 s (Ef P s o)
 | .convert T U x => if Uv P T then v0 s (L0 P s T U x) else if Uv P U then lfS (Lz P s nid T U x) else v0 s (Ef P s o)
 | .makeSlice T x y => lfS (Jb P s nid T x y)
 | .slice T x lo hi mx => if m6 P T then vC s (L6 P s T x lo hi mx) else (match mx with
  | none => lfS (Sr P s T x lo hi)
  | some _ => none)
 | .fieldAddr T x f => lf0 ((J2 P s T x f).map fun l => (l, s))
 | .field T x f => vl0 s (Vr P s T x f)
 | .indexAddr T x y => if K4 s x then lfC s (Ii P s T x y) else lfC s (Dz P s T x y)
 | .index T x y => vC s (L5 P s T x y)
 | .extract x i => j5 s (O9 s x i)
 | .makeMap T h => (match h with
  | none => lf0 (O3 P s nid T)
  | some _ => none)
 | .mapUpdate T m k v => stC ((Sp P s T m k v).map fun s' => ([], s'))
 | .lookup T m k ok => if ok then none else v0 s (O4 P s T m k)
 | .range T m => lf0 (V7 P s nid T m)
 | .entry it => j5 s (V8 s it)
 | .makeFunc f first captured => j5 s (Ss s f first.toList captured.toList)
 | .call c => match c.callee with
  | .builtin .len => (match c.args.toList, c.argTypes.toList with
   | [x], [T] => if Uv P T then (if K4 s x then v0 s (O0 P s T x) else v0 s (Uk P s T x)) else if Abs P T then v0 s (Ik P s T x) else v0 s (Ef P s o)
   | _, _ => none)
  | .builtin .append => (match c.args.toList, c.argTypes.toList with
   | [x, y], [T, U] => if m6 P U then lfS (Jc P s nid T U x y) else if U = T then (if K4 s x then lfS (O1 P s nid T x y) else lfS (O5 P s nid T x y)) else none
   | _, _ => none)
  | .builtin .delete => (match c.args.toList, c.argTypes.toList with
   | [x, y], [T, U] => stC ((Sq P s T U x y).map fun s' => ([], s'))
   | _, _ => none)
  | .builtin .min => v0 s (Ef P s o)
  | .builtin .max => v0 s (Ef P s o)
  | _ => none
 | _ => none
section
variable {P : Program} {n B : Nat} {Iq : List Nat} {s : St} {g : Gh} {a : Act} {w : World}
def Er (P : Program) (n B : Nat) (Iq : List Nat) (s : St) (g : Gh) (a : Act) (w : World) (o : Oper) (av : AV) (s' : St) : Prop :=
 ∀ (K : Act → World → Prop) (Q : Exit → Act → World → Prop), (∀ v g' w', Go B Iq s g w s' g' w' → Au n B Iq s' g' a w' → H7 s' g' w' av v → K (a.put o.dst v) w') → o.wp P a w K Q
theorem Er.val {o : Oper} {av : AV} {s' : St} {v : Value} {w' : World} {g' : Gh} (hr : (execOp a.eval o).run P w = .ok (.value v) w') (h1 : Go B Iq s g w s' g' w') (h2 : Au n B Iq s' g' a w') (h3 : H7 s' g' w' av v) : Er P n B Iq s g a w o av s' := by
 intro K Q hK
 unfold Oper.wp
 rw [hr, Oper.upon_value]
 exact hK v g' w' h1 h2 h3
theorem Er.skip {o : Oper} {s' : St} {w' : World} {g' : Gh} (hr : (execOp a.eval o).run P w = .ok .skip w') (h1 : Go B Iq s g w s' g' w') (h2 : Au n B Iq s' g' a w') : Er P n B Iq s g a w o .dead s' := by
 intro K Q hK
 unfold Oper.wp
 rw [hr, Oper.upon_skip]
 exact hK _ g' w' h1 h2 trivial
theorem Er.here {o : Oper} {av : AV} {v : Value} (h : Au n B Iq s g a w) (hr : (execOp a.eval o).run P w = .ok (.value v) w) (h3 : H7 s g w av v) : Er P n B Iq s g a w o av s :=
 Er.val hr (Go.refl B Iq s g w) h h3
theorem Uw (h : Au n B Iq s g a w) {nid : Nat} {T : TypeId} {x : Operand} {av : AV} {s' : St} (e : Ka P s nid T x = some (av, s')) :
  ∃ g', Go B Iq s g w s' g' w ∧ Au n B Iq s' g' a w ∧ H7 s' g' w av (a.eval x) := by
 unfold Ka at e
 split at e
 ·rename_i hn
  unfold Qe at hn
  split at hn
  ·exact W8 h e
  ·cases hn
 ·cases e
  exact ⟨g, Go.refl B Iq s g w, h, Yg h x⟩
theorem e8 (h : Au n B Iq s g a w) {c x y : Operand} {av : AV} (e : Kb s c x y = some av) :
  ∃ t : Bool, a.eval c = .bool t ∧ H7 s g w av (bif t then a.eval x else a.eval y) := by
 unfold Kb at e
 split at e
 ·rename_i t hc
  refine ⟨t, (A6 h hc).1, ?_⟩
  split at e
  ·rename_i p q hb
   cases e
   unfold Wd at hb
   split at hb <;> cases hb
   rename_i hx hy
   rw [(A6 h hx).1, (A6 h hy).1]
   cases t
   ·exact ⟨rfl, rfl⟩
   ·exact ⟨rfl, rfl⟩
  ·cases e
   cases t
   ·exact Yg h y
   ·exact Yg h x
 ·cases e
theorem We (h : Au n B Iq s g a w) {x : Operand} {i : Nat} {av : AV} (e : O9 s x i = some av) :
  ∃ v, (Instr.extract (a.eval x) i).run P w = .ok v w ∧ H7 s g w av v := by
 unfold O9 at e
 split at e
 ·rename_i vs hx
  split at e <;> cases e
  rename_i v hv
  have k := Yg h x
  rw [hx] at k
  obtain ⟨us, hu, hsz, hk⟩ := k
  obtain ⟨u, e1, e2⟩ := hk i v hv
  refine ⟨u, ?_, e2⟩
  rw [hu]
  simp [Instr.extract, e1]
 ·cases e
theorem T8 (h : Au n B Iq s g a w) {x : Operand} {av : AV} (e : L7 s x = some av) :
  (∃ ad, a.eval x = .pointer (some ad)) ∧ H7 s g w av (a.eval x) := by
 unfold L7 at e
 split at e
 ·rename_i id off hx
  obtain ⟨hl, h1⟩ := A7 h hx
  split at e <;> cases e
  rename_i T ls hr
  refine ⟨?_, hl, h1⟩
  simp only [Ba, hr] at hl
  obtain ⟨b, _, hu⟩ := hl
  exact ⟨_, hu⟩
 ·rename_i t xs i off hx
  obtain ⟨hl, h1⟩ := A7 h hx
  cases e
  refine ⟨?_, hl, h1⟩
  obtain ⟨ad, cs, hu, _⟩ := hl
  exact ⟨_, hu⟩
 ·rename_i id i off hx
  obtain ⟨hl, h1⟩ := A7 h hx
  split at e <;> cases e
  rename_i T t xs hr
  refine ⟨?_, hl, h1⟩
  simp only [Ba, hr] at hl
  obtain ⟨_, b, _, hu⟩ := hl
  exact ⟨_, hu⟩
 ·cases e
theorem Ux (h : Au n B Iq s g a w) : ∀ {xs : List Operand} {ls : List Lf}, Rq s xs = some ls → Ch s g w ls (xs.map a.eval)
 | [], ls, e => by cases e; trivial
 | x :: r, ls, e => by
  simp only [Rq] at e
  obtain ⟨l, e1, e⟩ := Option.bind_eq_some_iff.1 e
  obtain ⟨ls', e2, e⟩ := Option.bind_eq_some_iff.1 e
  cases e
  exact ⟨A7 h e1, Ux h e2⟩
theorem Rr {x : Option (List Bool × Lf)} {r : AV × St} (e : Eh (lfC s x) = some r) : ∃ l, Eh x = some l ∧ r = (.vl (.lf l), s) := by
 obtain ⟨cs, e1, e2⟩ := Az e
 unfold lfC at e1
 split at e1 <;> cases e1
 exact ⟨_, by simp [Eh, e2], rfl⟩
theorem K6 {x : Option (List Bool × Lf × St)} {r : AV × St} (e : Eh (lfS x) = some r) : ∃ l s', Eh x = some (l, s') ∧ r = (.vl (.lf l), s') := by
 obtain ⟨cs, e1, e2⟩ := Az e
 unfold lfS at e1
 split at e1 <;> cases e1
 exact ⟨_, _, by simp [Eh, e2], rfl⟩
theorem Nf {x : Option (List Bool × St)} {r : AV × St} (e : Eh (stC x) = some r) : ∃ s', Eh x = some s' ∧ r = (.dead, s') := by
 obtain ⟨cs, e1, e2⟩ := Az e
 unfold stC at e1
 split at e1 <;> cases e1
 exact ⟨_, by simp [Eh, e2], rfl⟩
theorem L8 {x : Option (List Bool × Value)} {r : AV × St} (e : Eh (vC s x) = some r) : ∃ v, Eh x = some v ∧ r = (.vl (.lf (.c v)), s) := by
 obtain ⟨cs, e1, e2⟩ := Az e
 unfold vC at e1
 split at e1 <;> cases e1
 exact ⟨_, by simp [Eh, e2], rfl⟩
theorem Ho {x : Option (Lf × St)} {r : AV × St} (e : Eh (lf0 x) = some r) : ∃ l s', x = some (l, s') ∧ r = (.vl (.lf l), s') := by
 obtain ⟨cs, e1, e2⟩ := Az e
 unfold lf0 at e1
 split at e1 <;> cases e1
 exact ⟨_, _, rfl, rfl⟩
theorem Jd {x : Option Value} {r : AV × St} (e : Eh (v0 s x) = some r) : ∃ v, x = some v ∧ r = (.vl (.lf (.c v)), s) := by
 obtain ⟨cs, e1, e2⟩ := Az e
 unfold v0 at e1
 split at e1 <;> cases e1
 exact ⟨_, rfl, rfl⟩
theorem Rs {x : Option Vl} {r : AV × St} (e : Eh (vl0 s x) = some r) : ∃ v, x = some v ∧ r = (.vl v, s) := by
 obtain ⟨cs, e1, e2⟩ := Az e
 unfold vl0 at e1
 split at e1 <;> cases e1
 exact ⟨_, rfl, rfl⟩
theorem K7 {x : Option AV} {r : AV × St} (e : Eh (j5 s x) = some r) : ∃ v, x = some v ∧ r = (v, s) := by
 obtain ⟨cs, e1, e2⟩ := Az e
 unfold j5 at e1
 split at e1 <;> cases e1
 exact ⟨_, rfl, rfl⟩
theorem Ru {x : Option (AV × St)} {r : AV × St} (e : Eh (avS x) = some r) : x = some r := by
 obtain ⟨cs, e1, e2⟩ := Az e
 unfold avS at e1
 split at e1 <;> cases e1
 rfl
theorem Zr {x : Option St} {s' : St} (e : Eh (x.map fun s' => (([] : List Bool), s')) = some s') : x = some s' := by
 cases x with
 | none => cases e
 | some y => exact e
theorem Es {v : Value} (h1 : v.oneCell' = true) : H7 s g w (.vl (.lf (.c v))) v := ⟨rfl, h1⟩
theorem Xg (h : Au n B Iq s g a w) {nid : Nat} {o : Oper} {av : AV} {s' : St} (e : Eh (Il P s nid o) = some (av, s')) : Er P n B Iq s g a w o av s' := by
 obtain ⟨dst, op, type, pos, after, guard⟩ := o
 have viaConc : ∀ {op : Op}, (∀ cs b, op ≠ .select cs b) → Eh (v0 s (Ef P s ⟨dst, op, type, pos, after, guard⟩)) = some (av, s') → Er P n B Iq s g a w ⟨dst, op, type, pos, after, guard⟩ av s' := by
  intro op hs e
  obtain ⟨v, e1, e2⟩ := Jd e
  cases e2
  obtain ⟨k1, k2⟩ := c9 h hs e1
  exact Er.here h k1 (Es k2)
 cases op <;> simp only [Il] at e <;> first | (cases e; done) | skip
 case move x =>
  obtain ⟨g', k1, k2, k3⟩ := Uw h (Ru e)
  exact Er.val (v := a.eval x) (by simp [execOp]) k1 k2 k3
 case assign x =>
  obtain ⟨g', k1, k2, k3⟩ := Uw h (Ru e)
  exact Er.val (v := a.eval x) (by simp [execOp]) k1 k2 k3
 case pick c x y =>
  obtain ⟨v, e1, e2⟩ := K7 e
  cases e2
  obtain ⟨t, k1, k2⟩ := e8 h e1
  refine Er.here h (v := bif t then a.eval x else a.eval y) ?_ k2
  simp only [execOp, k1]
  cases t <;> simp [asBool]
 case alloc T =>
  obtain ⟨l, s1, e1, e2⟩ := Ho e
  cases e2
  obtain ⟨x, w', g', k1, k2, k3, k4, k5⟩ := Yi h e1
  exact Er.val (v := x) (by simp [execOp, k1]) k2 k3 ⟨k4, k5⟩
 case box T x =>
  split at e
  ·rename_i v hv
   obtain ⟨l, s1, e1, e2⟩ := Ho e
   cases e2
   obtain ⟨x', w', g', k1, k2, k3, k4, k5⟩ := k8 (P := P) h (I5 h hv) e1
   exact Er.val (v := x') (by simp [execOp, k1]) k2 k3 ⟨k4, k5⟩
  ·cases e
 case build T parts =>
  obtain ⟨v, e1, e2⟩ := Rs e
  cases e2
  obtain ⟨u, k1, k2⟩ := Yj h e1
  exact Er.here h (v := u) (by simp only [execOp, Sem.run_bind, k1]; rfl) k2
 case buildSlice T len parts =>
  split at e
  ·rename_i hsl
   have hlen : len = 1 := by
    unfold l9 at hsl
    split at hsl
    ·split at hsl
     ·exact Nat.eq_of_beq_eq_true hsl
     ·cases hsl
    ·cases hsl
   subst hlen
   obtain ⟨l, s1, e1, e2⟩ := Ho e
   cases e2
   obtain ⟨u, w', g', k1, k2, k3, k4, k5⟩ := Xb h e1
   exact Er.val (v := u) (by simp only [execOp, Sem.run_bind, k1]; rfl) k2 k3 ⟨k4, k5⟩
  ·obtain ⟨l, s1, e1, e2⟩ := Ho e
   cases e2
   obtain ⟨u, w', g', k1, k2, k3, k4, k5⟩ := Qs h e1
   exact Er.val (v := u) (by simp only [execOp, Sem.run_bind, k1]; rfl) k2 k3 ⟨k4, k5⟩
 case load T x =>
  split at e
  ·obtain ⟨l, e1, e2⟩ := Rr e
   cases e2
   obtain ⟨u, k1, k2, k3⟩ := Yq h e1
   exact Er.here h (v := u) (by simp [execOp, k1]) ⟨k2, k3⟩
  ·obtain ⟨v, e1, e2⟩ := Rs e
   cases e2
   obtain ⟨u, k1, k2⟩ := d4 h e1
   exact Er.here h (v := u) (by simp [execOp, k1]) k2
 case store T x y =>
  split at e
  ·obtain ⟨s1, e1, e2⟩ := Nf e
   cases e2
   obtain ⟨w', g', k1, k2, k3⟩ := W9 h e1
   exact Er.skip (by simp [execOp, k1]) k2 k3
  ·obtain ⟨s1, e1, e2⟩ := Nf e
   cases e2
   obtain ⟨w', g', k1, k2, k3⟩ := Ym h (Wc e1)
   exact Er.skip (by simp [execOp, k1]) k2 k3
 case nilCheck x =>
  obtain ⟨v, e1, e2⟩ := K7 e
  cases e2
  obtain ⟨⟨ad, k1⟩, k2⟩ := T8 h e1
  refine Er.here h (v := a.eval x) ?_ k2
  simp [execOp, k1]
 case binOp op T x y U =>
  have viaV : ∀ {op : BinOp} {v : Value}, ((do eqGuard op T x y (a.eval x) (a.eval y); binOp op T (a.eval x) (a.eval y)) : Sem Value).run P w = .ok v w ∧ v.oneCell' = true → Er P n B Iq s g a w ⟨dst, .binOp op T x y U, type, pos, after, guard⟩ (.vl (.lf (.c v))) s := by
   intro op v hv
   refine Er.here h (v := v) ?_ (Es hv.2)
   simp only [execOp, Sem.run_bind] at hv ⊢
   rw [hv.1]
   rfl
  have hsel : ∀ (op : BinOp) cs b, Op.binOp op T x y U ≠ .select cs b := by intro op cs b q; cases q
  split at e
  ·split at e
   ·obtain ⟨v, e1, e2⟩ := L8 e
    cases e2
    exact viaV (W4 h e1)
   ·exact viaConc (hsel _) e
  ·obtain ⟨v, e1, e2⟩ := L8 e
   cases e2
   exact viaV (Sk h e1)
  ·obtain ⟨v, e1, e2⟩ := L8 e
   cases e2
   exact viaV (Sk h e1)
  ·obtain ⟨v, e1, e2⟩ := L8 e
   cases e2
   exact viaV (Sk h e1)
  ·split at e
   ·obtain ⟨v, e1, e2⟩ := Jd e
    cases e2
    exact viaV (Us h e1)
   ·exact viaConc (hsel _) e
  ·split at e
   ·obtain ⟨v, e1, e2⟩ := Jd e
    cases e2
    exact viaV (Us h e1)
   ·exact viaConc (hsel _) e
  ·exact viaConc (hsel _) e
 case unOp op T x => exact viaConc (by intro cs b q; cases q) e
 case convert T U x =>
  split at e
  ·obtain ⟨v, e1, e2⟩ := Jd e
   cases e2
   obtain ⟨k1, k2⟩ := T3 h e1
   exact Er.here h (v := v) (by simp [execOp, k1]) (Es k2)
  ·split at e
   ·obtain ⟨l, s1, e1, e2⟩ := K6 e
    cases e2
    obtain ⟨u, w', g', k1, k2, k3, k4, k5⟩ := T6 h e1
    exact Er.val (v := u) (by simp [execOp, k1]) k2 k3 ⟨k4, k5⟩
   ·exact viaConc (by intro cs b q; cases q) e
 case makeSlice T x y =>
  obtain ⟨l, s1, e1, e2⟩ := K6 e
  cases e2
  obtain ⟨u, w', g', k1, k2, k3, k4, k5⟩ := Sd h (O7 e1)
  exact Er.val (v := u) (by simp [execOp, k1]) k2 k3 ⟨k4, k5⟩
 case slice T x lo hi mx =>
  split at e
  ·obtain ⟨v, e1, e2⟩ := L8 e
   cases e2
   obtain ⟨k1, k2⟩ := T5 h e1
   exact Er.here h (v := v) (by simp only [execOp, Sem.run_bind, k1]; rfl) (Es k2)
  ·split at e
   ·obtain ⟨l, s1, e1, e2⟩ := K6 e
    cases e2
    obtain ⟨u, g', k1, k2, k3, k4, k5⟩ := Yk h (Wb e1)
    exact Er.val (v := u) (by simp only [execOp, Sem.run_bind, Option.map_none, k1]; rfl) k2 k3 ⟨k4, k5⟩
   ·cases e
 case fieldAddr T x f =>
  obtain ⟨l, s1, e1, e2⟩ := Ho e
  cases e2
  obtain ⟨l', e3, e4⟩ := Option.map_eq_some_iff.1 e1
  cases e4
  obtain ⟨u, k1, k2, k3⟩ := R7 h e3
  exact Er.here h (v := u) (by simp [execOp, k1]) ⟨k2, k3⟩
 case field T x f =>
  obtain ⟨v, e1, e2⟩ := Rs e
  cases e2
  obtain ⟨u, k1, k2⟩ := Yh h e1
  exact Er.here h (v := u) (by simp [execOp, k1]) k2
 case indexAddr T x y =>
  split at e
  ·obtain ⟨l, e1, e2⟩ := Rr e
   cases e2
   obtain ⟨u, k1, k2, k3⟩ := W7 h e1
   exact Er.here h (v := u) (by simp [execOp, k1]) ⟨k2, k3⟩
  ·obtain ⟨l, e1, e2⟩ := Rr e
   cases e2
   obtain ⟨u, k1, k2, k3⟩ := R8 h (O6 e1)
   exact Er.here h (v := u) (by simp [execOp, k1]) ⟨k2, k3⟩
 case index T x y =>
  obtain ⟨v, e1, e2⟩ := L8 e
  cases e2
  obtain ⟨k1, k2⟩ := T4 h e1
  exact Er.here h (v := v) (by simp [execOp, k1]) (Es k2)
 case extract x i =>
  obtain ⟨v, e1, e2⟩ := K7 e
  cases e2
  obtain ⟨u, k1, k2⟩ := We (P := P) h e1
  exact Er.here h (v := u) (by simp [execOp, k1]) k2
 case makeMap T hint =>
  cases hint with
  | some _ => cases e
  | none =>
   obtain ⟨l, s1, e1, e2⟩ := Ho e
   cases e2
   obtain ⟨u, w', g', k1, k2, k3, k4, k5⟩ := Wa h e1
   exact Er.val (v := u) (by simp [execOp, k1]) k2 k3 ⟨k4, k5⟩
 case mapUpdate T m k v =>
  obtain ⟨s1, e1, e2⟩ := Nf e
  cases e2
  obtain ⟨w', g', k1, k2, k3⟩ := Xd h (Zr e1)
  exact Er.skip (by simp [execOp, k1]) k2 k3
 case lookup T m k ok =>
  cases ok with
  | true => cases e
  | false =>
   obtain ⟨v, e1, e2⟩ := Jd e
   cases e2
   obtain ⟨k1, k2⟩ := V9 h e1
   exact Er.here h (v := v) (by simp [execOp, k1]) (Es k2)
 case range T m =>
  obtain ⟨l, s1, e1, e2⟩ := Ho e
  cases e2
  obtain ⟨u, w', g', k1, k2, k3, k4, k5⟩ := Yr h e1
  exact Er.val (v := u) (by simp [execOp, k1]) k2 k3 ⟨k4, k5⟩
 case entry it =>
  obtain ⟨av, e1, e2⟩ := K7 e
  cases e2
  obtain ⟨v, k1, k2⟩ := Ys (P := P) h e1
  exact Er.here h (v := v) (by simp [execOp, k1]) k2
 case makeFunc f first captured =>
  obtain ⟨v, e1, e2⟩ := K7 e
  cases e2
  unfold Ss at e1
  split at e1
  ·rename_i f0 hfirst
   obtain ⟨ls, q1, rfl⟩ := Option.map_eq_some_iff.1 e1
   have hf' : first = #[] := by apply Array.toList_inj.1; simpa using hfirst
   subst hf'
   refine Er.here h (v := .func (.func f0) #[] (captured.map a.eval)) (by simp [execOp, Instr.makeFunc]) ⟨_, rfl, ?_⟩
   rw [Array.toList_map]
   exact Ux h q1
  ·cases e1
 case call c =>
  obtain ⟨callee, args, argTypes⟩ := c
  simp only at e
  split at e
  ·split at e
   ·rename_i x T ha ht
    have ha' : args = #[x] := by apply Array.toList_inj.1; simpa using ha
    have ht' : argTypes = #[T] := by apply Array.toList_inj.1; simpa using ht
    subst ha' ht'
    split at e
    ·split at e
     ·obtain ⟨v, e1, e2⟩ := Jd e
      cases e2
      obtain ⟨k1, k2⟩ := d7 (ty := type) h e1
      exact Er.here h (v := v) (by simp [execOp, resolve, invoke, builtin, k1]) (Es k2)
     ·obtain ⟨v, e1, e2⟩ := Jd e
      cases e2
      obtain ⟨k1, k2⟩ := k7 (ty := type) h e1
      exact Er.here h (v := v) (by simp [execOp, resolve, invoke, builtin, k1]) (Es k2)
    ·split at e
     ·obtain ⟨v, e1, e2⟩ := Jd e
      cases e2
      obtain ⟨k1, k2⟩ := Xf (ty := type) h e1
      exact Er.here h (v := v) (by simp [execOp, resolve, invoke, builtin, k1]) (Es k2)
     ·exact viaConc (by intro cs b q; cases q) e
   ·cases e
  ·split at e
   ·rename_i x y T U ha ht
    have ha' : args = #[x, y] := by apply Array.toList_inj.1; simpa using ha
    have ht' : argTypes = #[T, U] := by apply Array.toList_inj.1; simpa using ht
    subst ha' ht'
    split at e
    ·obtain ⟨l, s1, e1, e2⟩ := K6 e
     cases e2
     obtain ⟨u, w', g', k1, k2, k3, k4, k5⟩ := Sb (ty := type) h (O8 e1)
     exact Er.val (v := u) (by simp [execOp, resolve, invoke, builtin, k1]) k2 k3 ⟨k4, k5⟩
    ·split at e
     ·rename_i hUT
      subst hUT
      split at e
      ·obtain ⟨l, s1, e1, e2⟩ := K6 e
       cases e2
       obtain ⟨u, w', g', k1, k2, k3, k4, k5⟩ := V4 (ty := type) h e1
       exact Er.val (v := u) (by simp [execOp, resolve, invoke, builtin, k1]) k2 k3 ⟨k4, k5⟩
      ·obtain ⟨l, s1, e1, e2⟩ := K6 e
       cases e2
       obtain ⟨u, w', g', k1, k2, k3, k4, k5⟩ := W0 (ty := type) h (T7 e1)
       exact Er.val (v := u) (by simp [execOp, resolve, invoke, builtin, k1]) k2 k3 ⟨k4, k5⟩
     ·cases e
   ·cases e
  ·split at e
   ·rename_i x y T U ha ht
    have ha' : args = #[x, y] := by apply Array.toList_inj.1; simpa using ha
    have ht' : argTypes = #[T, U] := by apply Array.toList_inj.1; simpa using ht
    subst ha' ht'
    obtain ⟨s1, e1, e2⟩ := Nf e
    cases e2
    obtain ⟨w', g', k1, k2, k3⟩ := Xe (ty := type) h (Zr e1)
    exact Er.val (v := .tuple #[]) (by simp [execOp, resolve, invoke, builtin, k1]) k2 k3 trivial
   ·cases e
  ·exact viaConc (by intro cs b q; cases q) e
  ·exact viaConc (by intro cs b q; cases q) e
  ·cases e
end
end Go.Proofs.Ytkfoebbjncngjaa.R

