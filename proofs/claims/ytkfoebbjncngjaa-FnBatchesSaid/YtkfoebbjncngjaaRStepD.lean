/- One operation is the machine's. No condition. -/
import Derived.Test.YtkfoebbjncngjaaRStepC
namespace Go.Proofs.Ytkfoebbjncngjaa.R
open Go Go.RowKit
set_option linter.unusedVariables false
set_option linter.unusedSimpArgs false
structure SD where
 sg : Sig
 den : Gs sg.ps → Option (Gs sg.rs × Kw sg.ps)
def C6 (P : Program) (f : FuncId) : Prop := ∃ fn, P.funcs[f]? = some fn ∧ (fn.name == "runtime.NumGoroutine") = false ∧ fn.body.isNone = false
def N6 : Operand → Bool
 | .const (.slice none 0 0) => true
 | _ => false
def I6 (P : Program) (s : St) (nid : Nat) (T : TypeId) (x : Operand) : Option (AV × St) :=
 if N6 x then U5 P s nid T else some (s.op x, s)
def T7 (s : St) (x y : Operand) : Option (Bool × Bool) := match s.conc x, s.conc y with
 | some (.bool p), some (.bool q) => some (p, q)
 | _, _ => none
def I7 (s : St) (c x y : Operand) : Option AV := match s.conc c with
 | some (.bool t) => match T7 s x y with
  | some (p, q) => some (.vl (.lf (.c (.bool (bif t then p else q)))))
  | none => some (bif t then s.op x else s.op y)
 | _ => none
def Ni (s : St) (x : Operand) (i : Nat) : Option AV := match s.op x with
 | .tp vs => match vs[i]? with
  | some v => some (.vl v)
  | none => none
 | _ => none
def K1 (s : St) (x : Operand) : Option AV := match s.leaf x with
 | some (.ptr id off) => match s.res id with
  | .box _ _ => some (.vl (.lf (.ptr id off)))
  | _ => none
 | some (.ep t xs i off) => some (.vl (.lf (.ep t xs i off)))
 | some (.rp id i off) => match s.res id with
  | .row _ _ _ => some (.vl (.lf (.rp id i off)))
  | _ => none
 | _ => none
abbrev Cd := Option (List Bool × AV × St)
def m5 (s : St) (x : Option (List Bool × Lf)) : Cd := match x with
 | some (cs, l) => some (cs, .vl (.lf l), s)
 | none => none
def z6 (x : Option (List Bool × Lf × St)) : Cd := match x with
 | some (cs, l, s) => some (cs, .vl (.lf l), s)
 | none => none
def m6 (x : Option (Lf × St)) : Cd := match x with
 | some (l, s) => some ([], .vl (.lf l), s)
 | none => none
def vC (s : St) (x : Option (List Bool × Value)) : Cd := match x with
 | some (cs, v) => some (cs, .vl (.lf (.c v)), s)
 | none => none
def v0 (s : St) (x : Option Value) : Cd := match x with
 | some v => some ([], .vl (.lf (.c v)), s)
 | none => none
def vl0 (s : St) (x : Option Vl) : Cd := match x with
 | some v => some ([], .vl v, s)
 | none => none
def Zo (s : St) (x : Option AV) : Cd := match x with
 | some v => some ([], v, s)
 | none => none
def avS (x : Option (AV × St)) : Cd := match x with
 | some (v, s) => some ([], v, s)
 | none => none
def u6 (x : Option (List Bool × St)) : Cd := match x with
 | some (cs, s) => some (cs, .dead, s)
 | none => none
def u7 (s : St) (x : Operand) : Bool := match s.value x with
 | some (.ag _) => true
 | _ => false
def z7 (s : St) (x : Operand) : Bool := match s.conc x with
 | some (.string _) => true
 | _ => false
def Xu (P : Program) (T : TypeId) : Bool := match P.underlying T with
 | some (.slice _) => true
 | _ => false
def Z2 (P : Program) (T : TypeId) : Bool := match P.underlying T with
 | some .string => true
 | _ => false
def O8 (s : St) : List Operand → Option (List Lf)
 | [] => some []
 | x :: r => (s.leaf x).bind fun l => (O8 s r).bind fun ls => some (l :: ls)
def Qi (s : St) (f : Fn) (first captured : List Operand) : Option AV := match f, first with
 | .func f, [] => (O8 s captured).map (AV.fn f)
 | _, _ => none
def Hl (P : Program) (s : St) (nid : Nat) (o : Oper) : Cd := match o.op with
 | .move x => avS (I6 P s nid o.type x)
 | .assign x => avS (I6 P s nid o.type x)
 | .pick c x y => Zo s (I7 s c x y)
 | .alloc T => m6 (Th P s nid T)
 | .box T x => match s.value x with
  | some v => m6 (Zr s nid T v)
  | none => none
 | .build T parts => vl0 s (Ti P s T parts)
 | .buildSlice T len parts => if Z0 P T len then m6 (Qc P s nid T parts.toList) else m6 (H3 P s nid T len parts)
 | .load T x => if Ly s x then m5 s (Tt P s T x) else vl0 s (Pw P s T x)
 | .store T x y => if Ly s x then u6 (Lz P s T x y) else u6 (I5 P s T x y)
 | .nilCheck x => Zo s (K1 s x)
 | .binOp op T x y U => match op with
  | .add => if z7 s x then vC s (Qa s .add x y) else v0 s (Dp P s o)
  | .quo => vC s (U2 s .quo x y)
  | .rem => vC s (U2 s .rem x y)
  | .shl => vC s (U2 s .shl x y)
  | .eql => if u7 s x then v0 s (Tr P s .eql T x y) else v0 s (Dp P s o)
  | .neq => if u7 s x then v0 s (Tr P s .neq T x y) else v0 s (Dp P s o)
  | _ => v0 s (Dp P s o)
 | .unOp _ _ _ => v0 s (Dp P s o)
 | .convert T U x => if Xu P T then v0 s (Ku P s T U x) else v0 s (Dp P s o)
 | .makeSlice T x y => z6 (Ib P s nid T x y)
 | .slice T x lo hi mx => if Z2 P T then vC s (K0 P s T x lo hi mx) else (match mx with
  | none => z6 (Qh P s T x lo hi)
  | some _ => none)
 | .fieldAddr T x f => m6 ((I0 P s T x f).map fun l => (l, s))
 | .field T x f => vl0 s (Tg P s T x f)
 | .indexAddr T x y => if J2 s x then m5 s (Hi P s T x y) else m5 s (Db P s T x y)
 | .index T x y => vC s (Kz P s T x y)
 | .extract x i => Zo s (Ni s x i)
 | .makeMap T h => (match h with
  | none => m6 (Nb P s nid T)
  | some _ => none)
 | .mapUpdate T m k v => u6 ((Qf P s T m k v).map fun s' => ([], s'))
 | .lookup T m k ok => if ok then none else v0 s (Nc P s T m k)
 | .range T m => m6 (Tz P s nid T m)
 | .entry it => Zo s (T1 s it)
 | .makeFunc f first captured => Zo s (Qi s f first.toList captured.toList)
 | .call c => match c.callee with
  | .builtin .len => (match c.args.toList, c.argTypes.toList with
   | [x], [T] => if Xu P T then (if J2 s x then v0 s (M8 P s T x) else v0 s (Sc P s T x)) else if z2 P T then v0 s (Hk P s T x) else v0 s (Dp P s o)
   | _, _ => none)
  | .builtin .append => (match c.args.toList, c.argTypes.toList with
   | [x, y], [T, U] => if Z2 P U then z6 (Ic P s nid T U x y) else if U = T then (if J2 s x then z6 (M9 P s nid T x y) else z6 (Nd P s nid T x y)) else none
   | _, _ => none)
  | .builtin .delete => (match c.args.toList, c.argTypes.toList with
   | [x, y], [T, U] => u6 ((Qg P s T U x y).map fun s' => ([], s'))
   | _, _ => none)
  | .builtin .min => v0 s (Dp P s o)
  | .builtin .max => v0 s (Dp P s o)
  | _ => none
 | _ => none
section
variable {P : Program} {n B : Nat} {Iq : List Nat} {s : St} {g : Gh} {a : Act} {w : World}
def Ej (P : Program) (n B : Nat) (Iq : List Nat) (s : St) (g : Gh) (a : Act) (w : World) (o : Oper) (av : AV) (s' : St) : Prop :=
 ∀ (K : Act → World → Prop) (Q : Exit → Act → World → Prop), (∀ v g' w', Go B Iq s g w s' g' w' → Au n B Iq s' g' a w' → G8 s' g' w' av v → K (a.put o.dst v) w') → o.wp P a w K Q
theorem Ej.val {o : Oper} {av : AV} {s' : St} {v : Value} {w' : World} {g' : Gh} (hr : (execOp a.eval o).run P w = .ok (.value v) w') (h1 : Go B Iq s g w s' g' w') (h2 : Au n B Iq s' g' a w') (h3 : G8 s' g' w' av v) : Ej P n B Iq s g a w o av s' := by
 intro K Q hK
 unfold Oper.wp
 rw [hr, Oper.upon_value]
 exact hK v g' w' h1 h2 h3
theorem Ej.skip {o : Oper} {s' : St} {w' : World} {g' : Gh} (hr : (execOp a.eval o).run P w = .ok .skip w') (h1 : Go B Iq s g w s' g' w') (h2 : Au n B Iq s' g' a w') : Ej P n B Iq s g a w o .dead s' := by
 intro K Q hK
 unfold Oper.wp
 rw [hr, Oper.upon_skip]
 exact hK _ g' w' h1 h2 trivial
theorem Ej.here {o : Oper} {av : AV} {v : Value} (h : Au n B Iq s g a w) (hr : (execOp a.eval o).run P w = .ok (.value v) w) (h3 : G8 s g w av v) : Ej P n B Iq s g a w o av s :=
 Ej.val hr (Go.refl B Iq s g w) h h3
theorem Sm (h : Au n B Iq s g a w) {nid : Nat} {T : TypeId} {x : Operand} {av : AV} {s' : St} (e : I6 P s nid T x = some (av, s')) :
  ∃ g', Go B Iq s g w s' g' w ∧ Au n B Iq s' g' a w ∧ G8 s' g' w av (a.eval x) := by
 unfold I6 at e
 split at e
 ·rename_i hn
  unfold N6 at hn
  split at hn
  ·exact U7 h e
  ·cases hn
 ·cases e
  exact ⟨g, Go.refl B Iq s g w, h, Wf h x⟩
theorem Y1 (h : Au n B Iq s g a w) {c x y : Operand} {av : AV} (e : I7 s c x y = some av) :
  ∃ t : Bool, a.eval c = .bool t ∧ G8 s g w av (bif t then a.eval x else a.eval y) := by
 unfold I7 at e
 split at e
 ·rename_i t hc
  refine ⟨t, (A5 h hc).1, ?_⟩
  split at e
  ·rename_i p q hb
   cases e
   unfold T7 at hb
   split at hb <;> cases hb
   rename_i hx hy
   rw [(A5 h hx).1, (A5 h hy).1]
   cases t
   ·exact ⟨rfl, rfl⟩
   ·exact ⟨rfl, rfl⟩
  ·cases e
   cases t
   ·exact Wf h y
   ·exact Wf h x
 ·cases e
theorem T8 (h : Au n B Iq s g a w) {x : Operand} {i : Nat} {av : AV} (e : Ni s x i = some av) :
  ∃ v, (Instr.extract (a.eval x) i).run P w = .ok v w ∧ G8 s g w av v := by
 unfold Ni at e
 split at e
 ·rename_i vs hx
  split at e <;> cases e
  rename_i v hv
  have k := Wf h x
  rw [hx] at k
  obtain ⟨us, hu, hsz, hk⟩ := k
  obtain ⟨u, e1, e2⟩ := hk i v hv
  refine ⟨u, ?_, e2⟩
  rw [hu]
  simp [Instr.extract, e1]
 ·cases e
theorem Rz (h : Au n B Iq s g a w) {x : Operand} {av : AV} (e : K1 s x = some av) :
  (∃ ad, a.eval x = .pointer (some ad)) ∧ G8 s g w av (a.eval x) := by
 unfold K1 at e
 split at e
 ·rename_i id off hx
  obtain ⟨hl, h1⟩ := A6 h hx
  split at e <;> cases e
  rename_i T ls hr
  refine ⟨?_, hl, h1⟩
  simp only [A9, hr] at hl
  obtain ⟨b, _, hu⟩ := hl
  exact ⟨_, hu⟩
 ·rename_i t xs i off hx
  obtain ⟨hl, h1⟩ := A6 h hx
  cases e
  refine ⟨?_, hl, h1⟩
  obtain ⟨ad, cs, hu, _⟩ := hl
  exact ⟨_, hu⟩
 ·rename_i id i off hx
  obtain ⟨hl, h1⟩ := A6 h hx
  split at e <;> cases e
  rename_i T t xs hr
  refine ⟨?_, hl, h1⟩
  simp only [A9, hr] at hl
  obtain ⟨_, b, _, hu⟩ := hl
  exact ⟨_, hu⟩
 ·cases e
theorem Sn (h : Au n B Iq s g a w) : ∀ {xs : List Operand} {ls : List Lf}, O8 s xs = some ls → B7 s g w ls (xs.map a.eval)
 | [], ls, e => by cases e; trivial
 | x :: r, ls, e => by
  simp only [O8] at e
  obtain ⟨l, e1, e⟩ := Option.bind_eq_some_iff.1 e
  obtain ⟨ls', e2, e⟩ := Option.bind_eq_some_iff.1 e
  cases e
  exact ⟨A6 h e1, Sn h e2⟩
theorem O9 {x : Option (List Bool × Lf)} {r : AV × St} (e : Dw (m5 s x) = some r) : ∃ l, Dw x = some l ∧ r = (.vl (.lf l), s) := by
 obtain ⟨cs, e1, e2⟩ := A0 e
 unfold m5 at e1
 split at e1 <;> cases e1
 exact ⟨_, by simp [Dw, e2], rfl⟩
theorem L2 {x : Option (List Bool × Lf × St)} {r : AV × St} (e : Dw (z6 x) = some r) : ∃ l s', Dw x = some (l, s') ∧ r = (.vl (.lf l), s') := by
 obtain ⟨cs, e1, e2⟩ := A0 e
 unfold z6 at e1
 split at e1 <;> cases e1
 exact ⟨_, _, by simp [Dw, e2], rfl⟩
theorem L3 {x : Option (List Bool × St)} {r : AV × St} (e : Dw (u6 x) = some r) : ∃ s', Dw x = some s' ∧ r = (.dead, s') := by
 obtain ⟨cs, e1, e2⟩ := A0 e
 unfold u6 at e1
 split at e1 <;> cases e1
 exact ⟨_, by simp [Dw, e2], rfl⟩
theorem K2 {x : Option (List Bool × Value)} {r : AV × St} (e : Dw (vC s x) = some r) : ∃ v, Dw x = some v ∧ r = (.vl (.lf (.c v)), s) := by
 obtain ⟨cs, e1, e2⟩ := A0 e
 unfold vC at e1
 split at e1 <;> cases e1
 exact ⟨_, by simp [Dw, e2], rfl⟩
theorem Gt {x : Option (Lf × St)} {r : AV × St} (e : Dw (m6 x) = some r) : ∃ l s', x = some (l, s') ∧ r = (.vl (.lf l), s') := by
 obtain ⟨cs, e1, e2⟩ := A0 e
 unfold m6 at e1
 split at e1 <;> cases e1
 exact ⟨_, _, rfl, rfl⟩
theorem Id {x : Option Value} {r : AV × St} (e : Dw (v0 s x) = some r) : ∃ v, x = some v ∧ r = (.vl (.lf (.c v)), s) := by
 obtain ⟨cs, e1, e2⟩ := A0 e
 unfold v0 at e1
 split at e1 <;> cases e1
 exact ⟨_, rfl, rfl⟩
theorem Pa {x : Option Vl} {r : AV × St} (e : Dw (vl0 s x) = some r) : ∃ v, x = some v ∧ r = (.vl v, s) := by
 obtain ⟨cs, e1, e2⟩ := A0 e
 unfold vl0 at e1
 split at e1 <;> cases e1
 exact ⟨_, rfl, rfl⟩
theorem J4 {x : Option AV} {r : AV × St} (e : Dw (Zo s x) = some r) : ∃ v, x = some v ∧ r = (v, s) := by
 obtain ⟨cs, e1, e2⟩ := A0 e
 unfold Zo at e1
 split at e1 <;> cases e1
 exact ⟨_, rfl, rfl⟩
theorem Pb {x : Option (AV × St)} {r : AV × St} (e : Dw (avS x) = some r) : x = some r := by
 obtain ⟨cs, e1, e2⟩ := A0 e
 unfold avS at e1
 split at e1 <;> cases e1
 rfl
theorem Xv {x : Option St} {s' : St} (e : Dw (x.map fun s' => (([] : List Bool), s')) = some s') : x = some s' := by
 cases x with
 | none => cases e
 | some y => exact e
theorem D0 {v : Value} (h1 : v.oneCell' = true) : G8 s g w (.vl (.lf (.c v))) v := ⟨rfl, h1⟩
theorem Vf (h : Au n B Iq s g a w) {nid : Nat} {o : Oper} {av : AV} {s' : St} (e : Dw (Hl P s nid o) = some (av, s')) : Ej P n B Iq s g a w o av s' := by
 obtain ⟨dst, op, type, pos, after, guard⟩ := o
 have viaConc : ∀ {op : Op}, (∀ cs b, op ≠ .select cs b) → Dw (v0 s (Dp P s ⟨dst, op, type, pos, after, guard⟩)) = some (av, s') → Ej P n B Iq s g a w ⟨dst, op, type, pos, after, guard⟩ av s' := by
  intro op hs e
  obtain ⟨v, e1, e2⟩ := Id e
  cases e2
  obtain ⟨k1, k2⟩ := Ys h hs e1
  exact Ej.here h k1 (D0 k2)
 cases op <;> simp only [Hl] at e <;> first | (cases e; done) | skip
 case move x =>
  obtain ⟨g', k1, k2, k3⟩ := Sm h (Pb e)
  exact Ej.val (v := a.eval x) (by simp [execOp]) k1 k2 k3
 case assign x =>
  obtain ⟨g', k1, k2, k3⟩ := Sm h (Pb e)
  exact Ej.val (v := a.eval x) (by simp [execOp]) k1 k2 k3
 case pick c x y =>
  obtain ⟨v, e1, e2⟩ := J4 e
  cases e2
  obtain ⟨t, k1, k2⟩ := Y1 h e1
  refine Ej.here h (v := bif t then a.eval x else a.eval y) ?_ k2
  simp only [execOp, k1]
  cases t <;> simp [asBool]
 case alloc T =>
  obtain ⟨l, s1, e1, e2⟩ := Gt e
  cases e2
  obtain ⟨x, w', g', k1, k2, k3, k4, k5⟩ := Wh h e1
  exact Ej.val (v := x) (by simp [execOp, k1]) k2 k3 ⟨k4, k5⟩
 case box T x =>
  split at e
  ·rename_i v hv
   obtain ⟨l, s1, e1, e2⟩ := Gt e
   cases e2
   obtain ⟨x', w', g', k1, k2, k3, k4, k5⟩ := Zu (P := P) h (H5 h hv) e1
   exact Ej.val (v := x') (by simp [execOp, k1]) k2 k3 ⟨k4, k5⟩
  ·cases e
 case build T parts =>
  obtain ⟨v, e1, e2⟩ := Pa e
  cases e2
  obtain ⟨u, k1, k2⟩ := Wi h e1
  exact Ej.here h (v := u) (by simp only [execOp, Sem.run_bind, k1]; rfl) k2
 case buildSlice T len parts =>
  split at e
  ·rename_i hsl
   have hlen : len = 1 := by
    unfold Z0 at hsl
    split at hsl
    ·split at hsl
     ·exact Nat.eq_of_beq_eq_true hsl
     ·cases hsl
    ·cases hsl
   subst hlen
   obtain ⟨l, s1, e1, e2⟩ := Gt e
   cases e2
   obtain ⟨u, w', g', k1, k2, k3, k4, k5⟩ := Va h e1
   exact Ej.val (v := u) (by simp only [execOp, Sem.run_bind, k1]; rfl) k2 k3 ⟨k4, k5⟩
  ·obtain ⟨l, s1, e1, e2⟩ := Gt e
   cases e2
   obtain ⟨u, w', g', k1, k2, k3, k4, k5⟩ := On h e1
   exact Ej.val (v := u) (by simp only [execOp, Sem.run_bind, k1]; rfl) k2 k3 ⟨k4, k5⟩
 case load T x =>
  split at e
  ·obtain ⟨l, e1, e2⟩ := O9 e
   cases e2
   obtain ⟨u, k1, k2, k3⟩ := Wp h e1
   exact Ej.here h (v := u) (by simp [execOp, k1]) ⟨k2, k3⟩
  ·obtain ⟨v, e1, e2⟩ := Pa e
   cases e2
   obtain ⟨u, k1, k2⟩ := Yt h e1
   exact Ej.here h (v := u) (by simp [execOp, k1]) k2
 case store T x y =>
  split at e
  ·obtain ⟨s1, e1, e2⟩ := L3 e
   cases e2
   obtain ⟨w', g', k1, k2, k3⟩ := U8 h e1
   exact Ej.skip (by simp [execOp, k1]) k2 k3
  ·obtain ⟨s1, e1, e2⟩ := L3 e
   cases e2
   obtain ⟨w', g', k1, k2, k3⟩ := Wl h (T6 e1)
   exact Ej.skip (by simp [execOp, k1]) k2 k3
 case nilCheck x =>
  obtain ⟨v, e1, e2⟩ := J4 e
  cases e2
  obtain ⟨⟨ad, k1⟩, k2⟩ := Rz h e1
  refine Ej.here h (v := a.eval x) ?_ k2
  simp [execOp, k1]
 case binOp op T x y U =>
  have viaV : ∀ {op : BinOp} {v : Value}, ((do eqGuard op T x y (a.eval x) (a.eval y); binOp op T (a.eval x) (a.eval y)) : Sem Value).run P w = .ok v w ∧ v.oneCell' = true → Ej P n B Iq s g a w ⟨dst, .binOp op T x y U, type, pos, after, guard⟩ (.vl (.lf (.c v))) s := by
   intro op v hv
   refine Ej.here h (v := v) ?_ (D0 hv.2)
   simp only [execOp, Sem.run_bind] at hv ⊢
   rw [hv.1]
   rfl
  have hsel : ∀ (op : BinOp) cs b, Op.binOp op T x y U ≠ .select cs b := by intro op cs b q; cases q
  split at e
  ·split at e
   ·obtain ⟨v, e1, e2⟩ := K2 e
    cases e2
    exact viaV (U3 h e1)
   ·exact viaConc (hsel _) e
  ·obtain ⟨v, e1, e2⟩ := K2 e
   cases e2
   exact viaV (Qb h e1)
  ·obtain ⟨v, e1, e2⟩ := K2 e
   cases e2
   exact viaV (Qb h e1)
  ·obtain ⟨v, e1, e2⟩ := K2 e
   cases e2
   exact viaV (Qb h e1)
  ·split at e
   ·obtain ⟨v, e1, e2⟩ := Id e
    cases e2
    exact viaV (Si h e1)
   ·exact viaConc (hsel _) e
  ·split at e
   ·obtain ⟨v, e1, e2⟩ := Id e
    cases e2
    exact viaV (Si h e1)
   ·exact viaConc (hsel _) e
  ·exact viaConc (hsel _) e
 case unOp op T x => exact viaConc (by intro cs b q; cases q) e
 case convert T U x =>
  split at e
  ·obtain ⟨v, e1, e2⟩ := Id e
   cases e2
   obtain ⟨k1, k2⟩ := Rv h e1
   exact Ej.here h (v := v) (by simp [execOp, k1]) (D0 k2)
  ·exact viaConc (by intro cs b q; cases q) e
 case makeSlice T x y =>
  obtain ⟨l, s1, e1, e2⟩ := L2 e
  cases e2
  obtain ⟨u, w', g', k1, k2, k3, k4, k5⟩ := P4 h (Ng e1)
  exact Ej.val (v := u) (by simp [execOp, k1]) k2 k3 ⟨k4, k5⟩
 case slice T x lo hi mx =>
  split at e
  ·obtain ⟨v, e1, e2⟩ := K2 e
   cases e2
   obtain ⟨k1, k2⟩ := Rx h e1
   exact Ej.here h (v := v) (by simp only [execOp, Sem.run_bind, k1]; rfl) (D0 k2)
  ·split at e
   ·obtain ⟨l, s1, e1, e2⟩ := L2 e
    cases e2
    obtain ⟨u, g', k1, k2, k3, k4, k5⟩ := Wj h (T5 e1)
    exact Ej.val (v := u) (by simp only [execOp, Sem.run_bind, Option.map_none, k1]; rfl) k2 k3 ⟨k4, k5⟩
   ·cases e
 case fieldAddr T x f =>
  obtain ⟨l, s1, e1, e2⟩ := Gt e
  cases e2
  obtain ⟨l', e3, e4⟩ := Option.map_eq_some_iff.1 e1
  cases e4
  obtain ⟨u, k1, k2, k3⟩ := Py h e3
  exact Ej.here h (v := u) (by simp [execOp, k1]) ⟨k2, k3⟩
 case field T x f =>
  obtain ⟨v, e1, e2⟩ := Pa e
  cases e2
  obtain ⟨u, k1, k2⟩ := Wg h e1
  exact Ej.here h (v := u) (by simp [execOp, k1]) k2
 case indexAddr T x y =>
  split at e
  ·obtain ⟨l, e1, e2⟩ := O9 e
   cases e2
   obtain ⟨u, k1, k2, k3⟩ := U6 h e1
   exact Ej.here h (v := u) (by simp [execOp, k1]) ⟨k2, k3⟩
  ·obtain ⟨l, e1, e2⟩ := O9 e
   cases e2
   obtain ⟨u, k1, k2, k3⟩ := Pz h (Nf e1)
   exact Ej.here h (v := u) (by simp [execOp, k1]) ⟨k2, k3⟩
 case index T x y =>
  obtain ⟨v, e1, e2⟩ := K2 e
  cases e2
  obtain ⟨k1, k2⟩ := Rw h e1
  exact Ej.here h (v := v) (by simp [execOp, k1]) (D0 k2)
 case extract x i =>
  obtain ⟨v, e1, e2⟩ := J4 e
  cases e2
  obtain ⟨u, k1, k2⟩ := T8 (P := P) h e1
  exact Ej.here h (v := u) (by simp [execOp, k1]) k2
 case makeMap T hint =>
  cases hint with
  | some _ => cases e
  | none =>
   obtain ⟨l, s1, e1, e2⟩ := Gt e
   cases e2
   obtain ⟨u, w', g', k1, k2, k3, k4, k5⟩ := T4 h e1
   exact Ej.val (v := u) (by simp [execOp, k1]) k2 k3 ⟨k4, k5⟩
 case mapUpdate T m k v =>
  obtain ⟨s1, e1, e2⟩ := L3 e
  cases e2
  obtain ⟨w', g', k1, k2, k3⟩ := Vc h (Xv e1)
  exact Ej.skip (by simp [execOp, k1]) k2 k3
 case lookup T m k ok =>
  cases ok with
  | true => cases e
  | false =>
   obtain ⟨v, e1, e2⟩ := Id e
   cases e2
   obtain ⟨k1, k2⟩ := T3 h e1
   exact Ej.here h (v := v) (by simp [execOp, k1]) (D0 k2)
 case range T m =>
  obtain ⟨l, s1, e1, e2⟩ := Gt e
  cases e2
  obtain ⟨u, w', g', k1, k2, k3, k4, k5⟩ := Wq h e1
  exact Ej.val (v := u) (by simp [execOp, k1]) k2 k3 ⟨k4, k5⟩
 case entry it =>
  obtain ⟨av, e1, e2⟩ := J4 e
  cases e2
  obtain ⟨v, k1, k2⟩ := Ws (P := P) h e1
  exact Ej.here h (v := v) (by simp [execOp, k1]) k2
 case makeFunc f first captured =>
  obtain ⟨v, e1, e2⟩ := J4 e
  cases e2
  unfold Qi at e1
  split at e1
  ·rename_i f0 hfirst
   obtain ⟨ls, q1, rfl⟩ := Option.map_eq_some_iff.1 e1
   have hf' : first = #[] := by apply Array.toList_inj.1; simpa using hfirst
   subst hf'
   refine Ej.here h (v := .func (.func f0) #[] (captured.map a.eval)) (by simp [execOp, Instr.makeFunc]) ⟨_, rfl, ?_⟩
   rw [Array.toList_map]
   exact Sn h q1
  ·cases e1
 case call c =>
  obtain ⟨callee, args, argTypes⟩ := c
  simp only at e
  split at e
  ·split at e
   ·rename_i x T ha ht
    have ha' : args = #[x] := by apply Array.toList_inj.1; simpa using ha
    have ht' : argTypes = #[T] := by apply Array.toList_inj.1; simpa using ht
    subst ha' ht'
    split at e
    ·split at e
     ·obtain ⟨v, e1, e2⟩ := Id e
      cases e2
      obtain ⟨k1, k2⟩ := Yy (ty := type) h e1
      exact Ej.here h (v := v) (by simp [execOp, resolve, invoke, builtin, k1]) (D0 k2)
     ·obtain ⟨v, e1, e2⟩ := Id e
      cases e2
      obtain ⟨k1, k2⟩ := Zt (ty := type) h e1
      exact Ej.here h (v := v) (by simp [execOp, resolve, invoke, builtin, k1]) (D0 k2)
    ·split at e
     ·obtain ⟨v, e1, e2⟩ := Id e
      cases e2
      obtain ⟨k1, k2⟩ := Ve (ty := type) h e1
      exact Ej.here h (v := v) (by simp [execOp, resolve, invoke, builtin, k1]) (D0 k2)
     ·exact viaConc (by intro cs b q; cases q) e
   ·cases e
  ·split at e
   ·rename_i x y T U ha ht
    have ha' : args = #[x, y] := by apply Array.toList_inj.1; simpa using ha
    have ht' : argTypes = #[T, U] := by apply Array.toList_inj.1; simpa using ht
    subst ha' ht'
    split at e
    ·obtain ⟨l, s1, e1, e2⟩ := L2 e
     cases e2
     obtain ⟨u, w', g', k1, k2, k3, k4, k5⟩ := P2 (ty := type) h (Nh e1)
     exact Ej.val (v := u) (by simp [execOp, resolve, invoke, builtin, k1]) k2 k3 ⟨k4, k5⟩
    ·split at e
     ·rename_i hUT
      subst hUT
      split at e
      ·obtain ⟨l, s1, e1, e2⟩ := L2 e
       cases e2
       obtain ⟨u, w', g', k1, k2, k3, k4, k5⟩ := Tv (ty := type) h e1
       exact Ej.val (v := u) (by simp [execOp, resolve, invoke, builtin, k1]) k2 k3 ⟨k4, k5⟩
      ·obtain ⟨l, s1, e1, e2⟩ := L2 e
       cases e2
       obtain ⟨u, w', g', k1, k2, k3, k4, k5⟩ := Uz (ty := type) h (Ry e1)
       exact Ej.val (v := u) (by simp [execOp, resolve, invoke, builtin, k1]) k2 k3 ⟨k4, k5⟩
     ·cases e
   ·cases e
  ·split at e
   ·rename_i x y T U ha ht
    have ha' : args = #[x, y] := by apply Array.toList_inj.1; simpa using ha
    have ht' : argTypes = #[T, U] := by apply Array.toList_inj.1; simpa using ht
    subst ha' ht'
    obtain ⟨s1, e1, e2⟩ := L3 e
    cases e2
    obtain ⟨w', g', k1, k2, k3⟩ := Vd (ty := type) h (Xv e1)
    exact Ej.val (v := .tuple #[]) (by simp [execOp, resolve, invoke, builtin, k1]) k2 k3 trivial
   ·cases e
  ·exact viaConc (by intro cs b q; cases q) e
  ·exact viaConc (by intro cs b q; cases q) e
  ·cases e
end
end Go.Proofs.Ytkfoebbjncngjaa.R

