/- One operation is the machine's. No condition. -/
import Derived.Test.YtkfoebbjncngjaaRStepC
namespace Go.Proofs.Ytkfoebbjncngjaa.R
open Go Go.RowKit
set_option linter.unusedVariables false
set_option linter.unusedSimpArgs false
structure SD where
 sg : Sig
 den : Gr sg.ps → Option (Gr sg.rs × Kr sg.ps)
def Cr (P : Program) (f : FuncId) : Prop := ∃ fn, P.funcs[f]? = some fn ∧ (fn.name == "runtime.NumGoroutine") = false ∧ fn.body.isNone = false
def Oj : Operand → Bool
 | .const (.slice none 0 0) => true
 | _ => false
def Is (P : Program) (s : St) (nid : Nat) (T : TypeId) (x : Operand) : Option (AV × St) :=
 if Oj x then Vj P s nid T else some (s.op x, s)
def Uk (s : St) (x y : Operand) : Option (Bool × Bool) := match s.conc x, s.conc y with
 | some (.bool p), some (.bool q) => some (p, q)
 | _, _ => none
def It (s : St) (c x y : Operand) : Option AV := match s.conc c with
 | some (.bool t) => match Uk s x y with
  | some (p, q) => some (.vl (.lf (.c (.bool (bif t then p else q)))))
  | none => some (bif t then s.op x else s.op y)
 | _ => none
def Ng (s : St) (x : Operand) (i : Nat) : Option AV := match s.op x with
 | .tp vs => match vs[i]? with
  | some v => some (.vl v)
  | none => none
 | _ => none
def Kx (s : St) (x : Operand) : Option AV := match s.leaf x with
 | some (.ptr id off) => match s.res id with
  | .box _ _ => some (.vl (.lf (.ptr id off)))
  | _ => none
 | some (.ep t xs i off) => some (.vl (.lf (.ep t xs i off)))
 | some (.rp id i off) => match s.res id with
  | .row _ _ _ => some (.vl (.lf (.rp id i off)))
  | _ => none
 | _ => none
abbrev Cd := Option (List Bool × AV × St)
def lfC (s : St) (x : Option (List Bool × Lf)) : Cd := match x with
 | some (cs, l) => some (cs, .vl (.lf l), s)
 | none => none
def lfS (x : Option (List Bool × Lf × St)) : Cd := match x with
 | some (cs, l, s) => some (cs, .vl (.lf l), s)
 | none => none
def lf0 (x : Option (Lf × St)) : Cd := match x with
 | some (l, s) => some ([], .vl (.lf l), s)
 | none => none
def vC (s : St) (x : Option (List Bool × Value)) : Cd := match x with
 | some (cs, v) => some (cs, .vl (.lf (.c v)), s)
 | none => none
def v0 (s : St) (x : Option Value) : Cd := match x with
 | some v => some ([], .vl (.lf (.c v)), s)
 | none => none
def vl0 (s : St) (x : Option Vl) : Cd := match x with
 | some v => some ([], .vl v, s)
 | none => none
def e9 (s : St) (x : Option AV) : Cd := match x with
 | some v => some ([], v, s)
 | none => none
def avS (x : Option (AV × St)) : Cd := match x with
 | some (v, s) => some ([], v, s)
 | none => none
def stC (x : Option (List Bool × St)) : Cd := match x with
 | some (cs, s) => some (cs, .dead, s)
 | none => none
def Abk (s : St) (x : Operand) : Bool := match s.value x with
 | some (.ag _) => true
 | _ => false
def Ab4 (s : St) (x : Operand) : Bool := match s.conc x with
 | some (.string _) => true
 | _ => false
def Sw (P : Program) (T : TypeId) : Bool := match P.underlying T with
 | some (.slice _) => true
 | _ => false
def i9 (P : Program) (T : TypeId) : Bool := match P.underlying T with
 | some .string => true
 | _ => false
def Pi (s : St) : List Operand → Option (List Lf)
 | [] => some []
 | x :: r => (s.leaf x).bind fun l => (Pi s r).bind fun ls => some (l :: ls)
def Ql (s : St) (f : Fn) (first captured : List Operand) : Option AV := match f, first with
 | .func f, [] => (Pi s captured).map (AV.fn f)
 | _, _ => none
def Hc (P : Program) (s : St) (nid : Nat) (o : Oper) : Cd := match o.op with
 | .move x => avS (Is P s nid o.type x)
 | .assign x => avS (Is P s nid o.type x)
 | .pick c x y => e9 s (It s c x y)
 | .alloc T => lf0 (Tw P s nid T)
 | .box T x => match s.value x with
  | some v => lf0 (f7 s nid T v)
  | none => none
 | .build T parts => vl0 s (Tx P s T parts)
 | .buildSlice T len parts => if i7 P T len then lf0 (Qf P s nid T parts.toList) else lf0 (Hs P s nid T len parts)
 | .load T x => if L1 s x then lfC s (T9 P s T x) else vl0 s (Pz P s T x)
 | .store T x y => if L1 s x then stC (L2 P s T x y) else stC (Ir P s T x y)
 | .nilCheck x => e9 s (Kx s x)
 | .binOp op T x y U => match op with
  | .add => if Ab4 s x then vC s (Qd s .add x y) else v0 s (Dr P s o)
  | .quo => vC s (Vg s .quo x y)
  | .rem => vC s (Vg s .rem x y)
  | .shl => vC s (Vg s .shl x y)
  | .eql => if Abk s x then v0 s (T8 P s .eql T x y) else v0 s (Dr P s o)
  | .neq => if Abk s x then v0 s (T8 P s .neq T x y) else v0 s (Dr P s o)
  | _ => v0 s (Dr P s o)
 | .unOp _ _ _ => v0 s (Dr P s o)
 | .convert T U x => if Sw P T then v0 s (Ko P s T U x) else if Sw P U then lfS (Kn P s nid T U x) else v0 s (Dr P s o)
 | .makeSlice T x y => lfS (Hz P s nid T x y)
 | .slice T x lo hi mx => if i9 P T then vC s (Kw P s T x lo hi mx) else (match mx with
  | none => lfS (Qk P s T x lo hi)
  | some _ => none)
 | .fieldAddr T x f => lf0 ((Ik P s T x f).map fun l => (l, s))
 | .field T x f => vl0 s (Tv P s T x f)
 | .indexAddr T x y => if Jy s x then lfC s (G9 P s T x y) else lfC s (C5 P s T x y)
 | .index T x y => vC s (Kv P s T x y)
 | .extract x i => e9 s (Ng s x i)
 | .makeMap T h => (match h with
  | none => lf0 (M9 P s nid T)
  | some _ => none)
 | .mapUpdate T m k v => stC ((Qi P s T m k v).map fun s' => ([], s'))
 | .lookup T m k ok => if ok then none else v0 s (Na P s T m k)
 | .range T m => lf0 (Ue P s nid T m)
 | .entry it => e9 s (Uf s it)
 | .makeFunc f first captured => e9 s (Ql s f first.toList captured.toList)
 | .call c => match c.callee with
  | .builtin .len => (match c.args.toList, c.argTypes.toList with
   | [x], [T] => if Sw P T then (if Jy s x then v0 s (M6 P s T x) else v0 s (Sj P s T x)) else if Ab3 P T then v0 s (Hb P s T x) else v0 s (Dr P s o)
   | _, _ => none)
  | .builtin .append => (match c.args.toList, c.argTypes.toList with
   | [x, y], [T, U] => if i9 P U then lfS (H0 P s nid T U x y) else if U = T then (if Jy s x then lfS (M7 P s nid T x y) else lfS (Nb P s nid T x y)) else none
   | _, _ => none)
  | .builtin .delete => (match c.args.toList, c.argTypes.toList with
   | [x, y], [T, U] => stC ((Qj P s T U x y).map fun s' => ([], s'))
   | _, _ => none)
  | .builtin .min => v0 s (Dr P s o)
  | .builtin .max => v0 s (Dr P s o)
  | _ => none
 | _ => none
section
variable {P : Program} {n B : Nat} {Iq : List Nat} {s : St} {g : Gh} {a : Act} {w : World}
def D2 (P : Program) (n B : Nat) (Iq : List Nat) (s : St) (g : Gh) (a : Act) (w : World) (o : Oper) (av : AV) (s' : St) : Prop :=
 ∀ (K : Act → World → Prop) (Q : Exit → Act → World → Prop), (∀ v g' w', Go B Iq s g w s' g' w' → As n B Iq s' g' a w' → G0 s' g' w' av v → K (a.put o.dst v) w') → o.wp P a w K Q
theorem D2.val {o : Oper} {av : AV} {s' : St} {v : Value} {w' : World} {g' : Gh} (hr : (execOp a.eval o).run P w = .ok (.value v) w') (h1 : Go B Iq s g w s' g' w') (h2 : As n B Iq s' g' a w') (h3 : G0 s' g' w' av v) : D2 P n B Iq s g a w o av s' := by
 intro K Q hK
 unfold Oper.wp
 rw [hr, Oper.upon_value]
 exact hK v g' w' h1 h2 h3
theorem D2.skip {o : Oper} {s' : St} {w' : World} {g' : Gh} (hr : (execOp a.eval o).run P w = .ok .skip w') (h1 : Go B Iq s g w s' g' w') (h2 : As n B Iq s' g' a w') : D2 P n B Iq s g a w o .dead s' := by
 intro K Q hK
 unfold Oper.wp
 rw [hr, Oper.upon_skip]
 exact hK _ g' w' h1 h2 trivial
theorem D2.here {o : Oper} {av : AV} {v : Value} (h : As n B Iq s g a w) (hr : (execOp a.eval o).run P w = .ok (.value v) w) (h3 : G0 s g w av v) : D2 P n B Iq s g a w o av s :=
 D2.val hr (Go.refl B Iq s g w) h h3
theorem Sx (h : As n B Iq s g a w) {nid : Nat} {T : TypeId} {x : Operand} {av : AV} {s' : St} (e : Is P s nid T x = some (av, s')) :
  ∃ g', Go B Iq s g w s' g' w ∧ As n B Iq s' g' a w ∧ G0 s' g' w av (a.eval x) := by
 unfold Is at e
 split at e
 ·rename_i hn
  unfold Oj at hn
  split at hn
  ·exact Vm h e
  ·cases hn
 ·cases e
  exact ⟨g, Go.refl B Iq s g w, h, Xd h x⟩
theorem Zx (h : As n B Iq s g a w) {c x y : Operand} {av : AV} (e : It s c x y = some av) :
  ∃ t : Bool, a.eval c = .bool t ∧ G0 s g w av (bif t then a.eval x else a.eval y) := by
 unfold It at e
 split at e
 ·rename_i t hc
  refine ⟨t, (Az h hc).1, ?_⟩
  split at e
  ·rename_i p q hb
   cases e
   unfold Uk at hb
   split at hb <;> cases hb
   rename_i hx hy
   rw [(Az h hx).1, (Az h hy).1]
   cases t
   ·exact ⟨rfl, rfl⟩
   ·exact ⟨rfl, rfl⟩
  ·cases e
   cases t
   ·exact Xd h y
   ·exact Xd h x
 ·cases e
theorem Ul (h : As n B Iq s g a w) {x : Operand} {i : Nat} {av : AV} (e : Ng s x i = some av) :
  ∃ v, (Instr.extract (a.eval x) i).run P w = .ok v w ∧ G0 s g w av v := by
 unfold Ng at e
 split at e
 ·rename_i vs hx
  split at e <;> cases e
  rename_i v hv
  have k := Xd h x
  rw [hx] at k
  obtain ⟨us, hu, hsz, hk⟩ := k
  obtain ⟨u, e1, e2⟩ := hk i v hv
  refine ⟨u, ?_, e2⟩
  rw [hu]
  simp [Instr.extract, e1]
 ·cases e
theorem R1 (h : As n B Iq s g a w) {x : Operand} {av : AV} (e : Kx s x = some av) :
  (∃ ad, a.eval x = .pointer (some ad)) ∧ G0 s g w av (a.eval x) := by
 unfold Kx at e
 split at e
 ·rename_i id off hx
  obtain ⟨hl, h1⟩ := A0 h hx
  split at e <;> cases e
  rename_i T ls hr
  refine ⟨?_, hl, h1⟩
  simp only [A1, hr] at hl
  obtain ⟨b, _, hu⟩ := hl
  exact ⟨_, hu⟩
 ·rename_i t xs i off hx
  obtain ⟨hl, h1⟩ := A0 h hx
  cases e
  refine ⟨?_, hl, h1⟩
  obtain ⟨ad, cs, hu, _⟩ := hl
  exact ⟨_, hu⟩
 ·rename_i id i off hx
  obtain ⟨hl, h1⟩ := A0 h hx
  split at e <;> cases e
  rename_i T t xs hr
  refine ⟨?_, hl, h1⟩
  simp only [A1, hr] at hl
  obtain ⟨_, b, _, hu⟩ := hl
  exact ⟨_, hu⟩
 ·cases e
theorem Sy (h : As n B Iq s g a w) : ∀ {xs : List Operand} {ls : List Lf}, Pi s xs = some ls → Bt s g w ls (xs.map a.eval)
 | [], ls, e => by cases e; trivial
 | x :: r, ls, e => by
  simp only [Pi] at e
  obtain ⟨l, e1, e⟩ := Option.bind_eq_some_iff.1 e
  obtain ⟨ls', e2, e⟩ := Option.bind_eq_some_iff.1 e
  cases e
  exact ⟨A0 h e1, Sy h e2⟩
theorem Pj {x : Option (List Bool × Lf)} {r : AV × St} (e : Dt (lfC s x) = some r) : ∃ l, Dt x = some l ∧ r = (.vl (.lf l), s) := by
 obtain ⟨cs, e1, e2⟩ := Av e
 unfold lfC at e1
 split at e1 <;> cases e1
 exact ⟨_, by simp [Dt, e2], rfl⟩
theorem J0 {x : Option (List Bool × Lf × St)} {r : AV × St} (e : Dt (lfS x) = some r) : ∃ l s', Dt x = some (l, s') ∧ r = (.vl (.lf l), s') := by
 obtain ⟨cs, e1, e2⟩ := Av e
 unfold lfS at e1
 split at e1 <;> cases e1
 exact ⟨_, _, by simp [Dt, e2], rfl⟩
theorem L5 {x : Option (List Bool × St)} {r : AV × St} (e : Dt (stC x) = some r) : ∃ s', Dt x = some s' ∧ r = (.dead, s') := by
 obtain ⟨cs, e1, e2⟩ := Av e
 unfold stC at e1
 split at e1 <;> cases e1
 exact ⟨_, by simp [Dt, e2], rfl⟩
theorem Ky {x : Option (List Bool × Value)} {r : AV × St} (e : Dt (vC s x) = some r) : ∃ v, Dt x = some v ∧ r = (.vl (.lf (.c v)), s) := by
 obtain ⟨cs, e1, e2⟩ := Av e
 unfold vC at e1
 split at e1 <;> cases e1
 exact ⟨_, by simp [Dt, e2], rfl⟩
theorem Gs {x : Option (Lf × St)} {r : AV × St} (e : Dt (lf0 x) = some r) : ∃ l s', x = some (l, s') ∧ r = (.vl (.lf l), s') := by
 obtain ⟨cs, e1, e2⟩ := Av e
 unfold lf0 at e1
 split at e1 <;> cases e1
 exact ⟨_, _, rfl, rfl⟩
theorem H1 {x : Option Value} {r : AV × St} (e : Dt (v0 s x) = some r) : ∃ v, x = some v ∧ r = (.vl (.lf (.c v)), s) := by
 obtain ⟨cs, e1, e2⟩ := Av e
 unfold v0 at e1
 split at e1 <;> cases e1
 exact ⟨_, rfl, rfl⟩
theorem Pk {x : Option Vl} {r : AV × St} (e : Dt (vl0 s x) = some r) : ∃ v, x = some v ∧ r = (.vl v, s) := by
 obtain ⟨cs, e1, e2⟩ := Av e
 unfold vl0 at e1
 split at e1 <;> cases e1
 exact ⟨_, rfl, rfl⟩
theorem J1 {x : Option AV} {r : AV × St} (e : Dt (e9 s x) = some r) : ∃ v, x = some v ∧ r = (v, s) := by
 obtain ⟨cs, e1, e2⟩ := Av e
 unfold e9 at e1
 split at e1 <;> cases e1
 exact ⟨_, rfl, rfl⟩
theorem Pl {x : Option (AV × St)} {r : AV × St} (e : Dt (avS x) = some r) : x = some r := by
 obtain ⟨cs, e1, e2⟩ := Av e
 unfold avS at e1
 split at e1 <;> cases e1
 rfl
theorem Ys {x : Option St} {s' : St} (e : Dt (x.map fun s' => (([] : List Bool), s')) = some s') : x = some s' := by
 cases x with
 | none => cases e
 | some y => exact e
theorem D3 {v : Value} (h1 : v.oneCell' = true) : G0 s g w (.vl (.lf (.c v))) v := ⟨rfl, h1⟩
theorem Vu (h : As n B Iq s g a w) {nid : Nat} {o : Oper} {av : AV} {s' : St} (e : Dt (Hc P s nid o) = some (av, s')) : D2 P n B Iq s g a w o av s' := by
 obtain ⟨dst, op, type, pos, after, guard⟩ := o
 have viaConc : ∀ {op : Op}, (∀ cs b, op ≠ .select cs b) → Dt (v0 s (Dr P s ⟨dst, op, type, pos, after, guard⟩)) = some (av, s') → D2 P n B Iq s g a w ⟨dst, op, type, pos, after, guard⟩ av s' := by
  intro op hs e
  obtain ⟨v, e1, e2⟩ := H1 e
  cases e2
  obtain ⟨k1, k2⟩ := Zq h hs e1
  exact D2.here h k1 (D3 k2)
 cases op <;> simp only [Hc] at e <;> first | (cases e; done) | skip
 case move x =>
  obtain ⟨g', k1, k2, k3⟩ := Sx h (Pl e)
  exact D2.val (v := a.eval x) (by simp [execOp]) k1 k2 k3
 case assign x =>
  obtain ⟨g', k1, k2, k3⟩ := Sx h (Pl e)
  exact D2.val (v := a.eval x) (by simp [execOp]) k1 k2 k3
 case pick c x y =>
  obtain ⟨v, e1, e2⟩ := J1 e
  cases e2
  obtain ⟨t, k1, k2⟩ := Zx h e1
  refine D2.here h (v := bif t then a.eval x else a.eval y) ?_ k2
  simp only [execOp, k1]
  cases t <;> simp [asBool]
 case alloc T =>
  obtain ⟨l, s1, e1, e2⟩ := Gs e
  cases e2
  obtain ⟨x, w', g', k1, k2, k3, k4, k5⟩ := Xf h e1
  exact D2.val (v := x) (by simp [execOp, k1]) k2 k3 ⟨k4, k5⟩
 case box T x =>
  split at e
  ·rename_i v hv
   obtain ⟨l, s1, e1, e2⟩ := Gs e
   cases e2
   obtain ⟨x', w', g', k1, k2, k3, k4, k5⟩ := g5 (P := P) h (Ht h hv) e1
   exact D2.val (v := x') (by simp [execOp, k1]) k2 k3 ⟨k4, k5⟩
  ·cases e
 case build T parts =>
  obtain ⟨v, e1, e2⟩ := Pk e
  cases e2
  obtain ⟨u, k1, k2⟩ := Xg h e1
  exact D2.here h (v := u) (by simp only [execOp, Sem.run_bind, k1]; rfl) k2
 case buildSlice T len parts =>
  split at e
  ·rename_i hsl
   have hlen : len = 1 := by
    unfold i7 at hsl
    split at hsl
    ·split at hsl
     ·exact Nat.eq_of_beq_eq_true hsl
     ·cases hsl
    ·cases hsl
   subst hlen
   obtain ⟨l, s1, e1, e2⟩ := Gs e
   cases e2
   obtain ⟨u, w', g', k1, k2, k3, k4, k5⟩ := Vp h e1
   exact D2.val (v := u) (by simp only [execOp, Sem.run_bind, k1]; rfl) k2 k3 ⟨k4, k5⟩
  ·obtain ⟨l, s1, e1, e2⟩ := Gs e
   cases e2
   obtain ⟨u, w', g', k1, k2, k3, k4, k5⟩ := O5 h e1
   exact D2.val (v := u) (by simp only [execOp, Sem.run_bind, k1]; rfl) k2 k3 ⟨k4, k5⟩
 case load T x =>
  split at e
  ·obtain ⟨l, e1, e2⟩ := Pj e
   cases e2
   obtain ⟨u, k1, k2, k3⟩ := Xn h e1
   exact D2.here h (v := u) (by simp [execOp, k1]) ⟨k2, k3⟩
  ·obtain ⟨v, e1, e2⟩ := Pk e
   cases e2
   obtain ⟨u, k1, k2⟩ := Zr h e1
   exact D2.here h (v := u) (by simp [execOp, k1]) k2
 case store T x y =>
  split at e
  ·obtain ⟨s1, e1, e2⟩ := L5 e
   cases e2
   obtain ⟨w', g', k1, k2, k3⟩ := Vn h e1
   exact D2.skip (by simp [execOp, k1]) k2 k3
  ·obtain ⟨s1, e1, e2⟩ := L5 e
   cases e2
   obtain ⟨w', g', k1, k2, k3⟩ := Xj h (Uj e1)
   exact D2.skip (by simp [execOp, k1]) k2 k3
 case nilCheck x =>
  obtain ⟨v, e1, e2⟩ := J1 e
  cases e2
  obtain ⟨⟨ad, k1⟩, k2⟩ := R1 h e1
  refine D2.here h (v := a.eval x) ?_ k2
  simp [execOp, k1]
 case binOp op T x y U =>
  have viaV : ∀ {op : BinOp} {v : Value}, ((do eqGuard op T x y (a.eval x) (a.eval y); binOp op T (a.eval x) (a.eval y)) : Sem Value).run P w = .ok v w ∧ v.oneCell' = true → D2 P n B Iq s g a w ⟨dst, .binOp op T x y U, type, pos, after, guard⟩ (.vl (.lf (.c v))) s := by
   intro op v hv
   refine D2.here h (v := v) ?_ (D3 hv.2)
   simp only [execOp, Sem.run_bind] at hv ⊢
   rw [hv.1]
   rfl
  have hsel : ∀ (op : BinOp) cs b, Op.binOp op T x y U ≠ .select cs b := by intro op cs b q; cases q
  split at e
  ·split at e
   ·obtain ⟨v, e1, e2⟩ := Ky e
    cases e2
    exact viaV (Vh h e1)
   ·exact viaConc (hsel _) e
  ·obtain ⟨v, e1, e2⟩ := Ky e
   cases e2
   exact viaV (Qe h e1)
  ·obtain ⟨v, e1, e2⟩ := Ky e
   cases e2
   exact viaV (Qe h e1)
  ·obtain ⟨v, e1, e2⟩ := Ky e
   cases e2
   exact viaV (Qe h e1)
  ·split at e
   ·obtain ⟨v, e1, e2⟩ := H1 e
    cases e2
    exact viaV (Ss h e1)
   ·exact viaConc (hsel _) e
  ·split at e
   ·obtain ⟨v, e1, e2⟩ := H1 e
    cases e2
    exact viaV (Ss h e1)
   ·exact viaConc (hsel _) e
  ·exact viaConc (hsel _) e
 case unOp op T x => exact viaConc (by intro cs b q; cases q) e
 case convert T U x =>
  split at e
  ·obtain ⟨v, e1, e2⟩ := H1 e
   cases e2
   obtain ⟨k1, k2⟩ := Rw h e1
   exact D2.here h (v := v) (by simp [execOp, k1]) (D3 k2)
  ·split at e
   ·obtain ⟨l, s1, e1, e2⟩ := J0 e
    cases e2
    obtain ⟨u, w', g', k1, k2, k3, k4, k5⟩ := Rz h e1
    exact D2.val (v := u) (by simp [execOp, k1]) k2 k3 ⟨k4, k5⟩
   ·exact viaConc (by intro cs b q; cases q) e
 case makeSlice T x y =>
  obtain ⟨l, s1, e1, e2⟩ := J0 e
  cases e2
  obtain ⟨u, w', g', k1, k2, k3, k4, k5⟩ := P7 h (Nd e1)
  exact D2.val (v := u) (by simp [execOp, k1]) k2 k3 ⟨k4, k5⟩
 case slice T x lo hi mx =>
  split at e
  ·obtain ⟨v, e1, e2⟩ := Ky e
   cases e2
   obtain ⟨k1, k2⟩ := Ry h e1
   exact D2.here h (v := v) (by simp only [execOp, Sem.run_bind, k1]; rfl) (D3 k2)
  ·split at e
   ·obtain ⟨l, s1, e1, e2⟩ := J0 e
    cases e2
    obtain ⟨u, g', k1, k2, k3, k4, k5⟩ := Xh h (Ui e1)
    exact D2.val (v := u) (by simp only [execOp, Sem.run_bind, Option.map_none, k1]; rfl) k2 k3 ⟨k4, k5⟩
   ·cases e
 case fieldAddr T x f =>
  obtain ⟨l, s1, e1, e2⟩ := Gs e
  cases e2
  obtain ⟨l', e3, e4⟩ := Option.map_eq_some_iff.1 e1
  cases e4
  obtain ⟨u, k1, k2, k3⟩ := P1 h e3
  exact D2.here h (v := u) (by simp [execOp, k1]) ⟨k2, k3⟩
 case field T x f =>
  obtain ⟨v, e1, e2⟩ := Pk e
  cases e2
  obtain ⟨u, k1, k2⟩ := Xe h e1
  exact D2.here h (v := u) (by simp [execOp, k1]) k2
 case indexAddr T x y =>
  split at e
  ·obtain ⟨l, e1, e2⟩ := Pj e
   cases e2
   obtain ⟨u, k1, k2, k3⟩ := Vk h e1
   exact D2.here h (v := u) (by simp [execOp, k1]) ⟨k2, k3⟩
  ·obtain ⟨l, e1, e2⟩ := Pj e
   cases e2
   obtain ⟨u, k1, k2, k3⟩ := P2 h (Nc e1)
   exact D2.here h (v := u) (by simp [execOp, k1]) ⟨k2, k3⟩
 case index T x y =>
  obtain ⟨v, e1, e2⟩ := Ky e
  cases e2
  obtain ⟨k1, k2⟩ := Rx h e1
  exact D2.here h (v := v) (by simp [execOp, k1]) (D3 k2)
 case extract x i =>
  obtain ⟨v, e1, e2⟩ := J1 e
  cases e2
  obtain ⟨u, k1, k2⟩ := Ul (P := P) h e1
  exact D2.here h (v := u) (by simp [execOp, k1]) k2
 case makeMap T hint =>
  cases hint with
  | some _ => cases e
  | none =>
   obtain ⟨l, s1, e1, e2⟩ := Gs e
   cases e2
   obtain ⟨u, w', g', k1, k2, k3, k4, k5⟩ := Uh h e1
   exact D2.val (v := u) (by simp [execOp, k1]) k2 k3 ⟨k4, k5⟩
 case mapUpdate T m k v =>
  obtain ⟨s1, e1, e2⟩ := L5 e
  cases e2
  obtain ⟨w', g', k1, k2, k3⟩ := Vr h (Ys e1)
  exact D2.skip (by simp [execOp, k1]) k2 k3
 case lookup T m k ok =>
  cases ok with
  | true => cases e
  | false =>
   obtain ⟨v, e1, e2⟩ := H1 e
   cases e2
   obtain ⟨k1, k2⟩ := Ug h e1
   exact D2.here h (v := v) (by simp [execOp, k1]) (D3 k2)
 case range T m =>
  obtain ⟨l, s1, e1, e2⟩ := Gs e
  cases e2
  obtain ⟨u, w', g', k1, k2, k3, k4, k5⟩ := Xo h e1
  exact D2.val (v := u) (by simp [execOp, k1]) k2 k3 ⟨k4, k5⟩
 case entry it =>
  obtain ⟨av, e1, e2⟩ := J1 e
  cases e2
  obtain ⟨v, k1, k2⟩ := Xp (P := P) h e1
  exact D2.here h (v := v) (by simp [execOp, k1]) k2
 case makeFunc f first captured =>
  obtain ⟨v, e1, e2⟩ := J1 e
  cases e2
  unfold Ql at e1
  split at e1
  ·rename_i f0 hfirst
   obtain ⟨ls, q1, rfl⟩ := Option.map_eq_some_iff.1 e1
   have hf' : first = #[] := by apply Array.toList_inj.1; simpa using hfirst
   subst hf'
   refine D2.here h (v := .func (.func f0) #[] (captured.map a.eval)) (by simp [execOp, Instr.makeFunc]) ⟨_, rfl, ?_⟩
   rw [Array.toList_map]
   exact Sy h q1
  ·cases e1
 case call c =>
  obtain ⟨callee, args, argTypes⟩ := c
  simp only at e
  split at e
  ·split at e
   ·rename_i x T ha ht
    have ha' : args = #[x] := by apply Array.toList_inj.1; simpa using ha
    have ht' : argTypes = #[T] := by apply Array.toList_inj.1; simpa using ht
    subst ha' ht'
    split at e
    ·split at e
     ·obtain ⟨v, e1, e2⟩ := H1 e
      cases e2
      obtain ⟨k1, k2⟩ := Zu (ty := type) h e1
      exact D2.here h (v := v) (by simp [execOp, resolve, invoke, builtin, k1]) (D3 k2)
     ·obtain ⟨v, e1, e2⟩ := H1 e
      cases e2
      obtain ⟨k1, k2⟩ := f9 (ty := type) h e1
      exact D2.here h (v := v) (by simp [execOp, resolve, invoke, builtin, k1]) (D3 k2)
    ·split at e
     ·obtain ⟨v, e1, e2⟩ := H1 e
      cases e2
      obtain ⟨k1, k2⟩ := Vt (ty := type) h e1
      exact D2.here h (v := v) (by simp [execOp, resolve, invoke, builtin, k1]) (D3 k2)
     ·exact viaConc (by intro cs b q; cases q) e
   ·cases e
  ·split at e
   ·rename_i x y T U ha ht
    have ha' : args = #[x, y] := by apply Array.toList_inj.1; simpa using ha
    have ht' : argTypes = #[T, U] := by apply Array.toList_inj.1; simpa using ht
    subst ha' ht'
    split at e
    ·obtain ⟨l, s1, e1, e2⟩ := J0 e
     cases e2
     obtain ⟨u, w', g', k1, k2, k3, k4, k5⟩ := P5 (ty := type) h (Nf e1)
     exact D2.val (v := u) (by simp [execOp, resolve, invoke, builtin, k1]) k2 k3 ⟨k4, k5⟩
    ·split at e
     ·rename_i hUT
      subst hUT
      split at e
      ·obtain ⟨l, s1, e1, e2⟩ := J0 e
       cases e2
       obtain ⟨u, w', g', k1, k2, k3, k4, k5⟩ := Ub (ty := type) h e1
       exact D2.val (v := u) (by simp [execOp, resolve, invoke, builtin, k1]) k2 k3 ⟨k4, k5⟩
      ·obtain ⟨l, s1, e1, e2⟩ := J0 e
       cases e2
       obtain ⟨u, w', g', k1, k2, k3, k4, k5⟩ := Vd (ty := type) h (R0 e1)
       exact D2.val (v := u) (by simp [execOp, resolve, invoke, builtin, k1]) k2 k3 ⟨k4, k5⟩
     ·cases e
   ·cases e
  ·split at e
   ·rename_i x y T U ha ht
    have ha' : args = #[x, y] := by apply Array.toList_inj.1; simpa using ha
    have ht' : argTypes = #[T, U] := by apply Array.toList_inj.1; simpa using ht
    subst ha' ht'
    obtain ⟨s1, e1, e2⟩ := L5 e
    cases e2
    obtain ⟨w', g', k1, k2, k3⟩ := Vs (ty := type) h (Ys e1)
    exact D2.val (v := .tuple #[]) (by simp [execOp, resolve, invoke, builtin, k1]) k2 k3 trivial
   ·cases e
  ·exact viaConc (by intro cs b q; cases q) e
  ·exact viaConc (by intro cs b q; cases q) e
  ·cases e
end
end Go.Proofs.Ytkfoebbjncngjaa.R

