/- One operation is the machine's. No condition. -/
import Derived.Test.YtkfoebbjncngjaaRStepC
namespace Go.Proofs.Ytkfoebbjncngjaa.R
open Go Go.RowKit
set_option linter.unusedVariables false
set_option linter.unusedSimpArgs false
structure SD where
 sg : Sig
 den : I8 sg.ps → Option (I8 sg.rs × Og sg.ps)
def Ec (P : Program) (f : FuncId) : Prop := ∃ fn, P.funcs[f]? = some fn ∧ (fn.name == "runtime.NumGoroutine") = false ∧ fn.body.isNone = false
def So : Operand → Bool
 | .const (.slice none 0 0) => true
 | _ => false
def L7 (P : Program) (s : St) (nid : Nat) (T : TypeId) (x : Operand) : Option (AV × St) :=
 if So x then f5 P s nid T else some (s.op x, s)
def Zp (s : St) (x y : Operand) : Option (Bool × Bool) := match s.conc x, s.conc y with
 | some (.bool p), some (.bool q) => some (p, q)
 | _, _ => none
def L8 (s : St) (c x y : Operand) : Option AV := match s.conc c with
 | some (.bool t) => match Zp s x y with
  | some (p, q) => some (.vl (.lf (.c (.bool (bif t then p else q)))))
  | none => some (bif t then s.op x else s.op y)
 | _ => none
def Rg (s : St) (x : Operand) (i : Nat) : Option AV := match s.op x with
 | .tp vs => match vs[i]? with
  | some v => some (.vl v)
  | none => none
 | _ => none
def Ol (s : St) (x : Operand) : Option AV := match s.leaf x with
 | some (.ptr id off) => match s.res id with
  | .box _ _ => some (.vl (.lf (.ptr id off)))
  | _ => none
 | some (.ep t xs i off) => some (.vl (.lf (.ep t xs i off)))
 | some (.rp id i off) => match s.res id with
  | .row _ _ _ => some (.vl (.lf (.rp id i off)))
  | _ => none
 | _ => none
abbrev Cd := Option (List Bool × AV × St)
def lfC (s : St) (x : Option (List Bool × Lf)) : Cd := match x with
 | some (cs, l) => some (cs, .vl (.lf l), s)
 | none => none
def lfS (x : Option (List Bool × Lf × St)) : Cd := match x with
 | some (cs, l, s) => some (cs, .vl (.lf l), s)
 | none => none
def lf0 (x : Option (Lf × St)) : Cd := match x with
 | some (l, s) => some ([], .vl (.lf l), s)
 | none => none
def vC (s : St) (x : Option (List Bool × Value)) : Cd := match x with
 | some (cs, v) => some (cs, .vl (.lf (.c v)), s)
 | none => none
def v0 (s : St) (x : Option Value) : Cd := match x with
 | some v => some ([], .vl (.lf (.c v)), s)
 | none => none
def vl0 (s : St) (x : Option Vl) : Cd := match x with
 | some v => some ([], .vl v, s)
 | none => none
def av0 (s : St) (x : Option AV) : Cd := match x with
 | some v => some ([], v, s)
 | none => none
def avS (x : Option (AV × St)) : Cd := match x with
 | some (v, s) => some ([], v, s)
 | none => none
def stC (x : Option (List Bool × St)) : Cd := match x with
 | some (cs, s) => some (cs, .dead, s)
 | none => none
def Ahf (s : St) (x : Operand) : Bool := match s.value x with
 | some (.ag _) => true
 | _ => false
def Ahy (s : St) (x : Operand) : Bool := match s.conc x with
 | some (.string _) => true
 | _ => false
def Abn (P : Program) (T : TypeId) : Bool := match P.underlying T with
 | some (.slice _) => true
 | _ => false
def Ad0 (P : Program) (T : TypeId) : Bool := match P.underlying T with
 | some .string => true
 | _ => false
def T1 (s : St) : List Operand → Option (List Lf)
 | [] => some []
 | x :: r => (s.leaf x).bind fun l => (T1 s r).bind fun ls => some (l :: ls)
def U4 (s : St) (f : Fn) (first captured : List Operand) : Option AV := match f, first with
 | .func f, [] => (T1 s captured).map (AV.fn f)
 | _, _ => none
def J6 (P : Program) (s : St) (nid : Nat) (o : Oper) : Cd := match o.op with
 | .move x => avS (L7 P s nid o.type x)
 | .assign x => avS (L7 P s nid o.type x)
 | .pick c x y => av0 s (L8 s c x y)
 | .alloc T => lf0 (Y3 P s nid T)
 | .box T x => match s.value x with
  | some v => lf0 (Adp s nid T v)
  | none => none
 | .build T parts => vl0 s (Y4 P s T parts)
 | .buildSlice T len parts => if Ady P T len then lf0 (Uy P s nid T parts.toList) else lf0 (Kq P s nid T len parts)
 | .load T x => if Pq s x then lfC s (Ze P s T x) else vl0 s (Ui P s T x)
 | .store T x y => if Pq s x then stC (Ps P s T x y) else stC (L6 P s T x y)
 | .nilCheck x => av0 s (Ol s x)
 | .binOp op T x y U => match op with
  | .add => if Ahy s x then vC s (Uw s .add x y) else v0 s (Fr P s o)
  | .quo => vC s (d9 s .quo x y)
  | .rem => vC s (d9 s .rem x y)
  | .shl => vC s (d9 s .shl x y)
  | .eql => if Ahf s x then v0 s (Zd P s .eql T x y) else v0 s (Fr P s o)
  | .neq => if Ahf s x then v0 s (Zd P s .neq T x y) else v0 s (Fr P s o)
  | _ => v0 s (Fr P s o)
 | .unOp _ _ _ => v0 s (Fr P s o)
 | .convert T U x => if Abn P T then v0 s (Oe P s T U x) else v0 s (Fr P s o)
 | .makeSlice T x y => lfS (Kz P s nid T x y)
 | .slice T x lo hi mx => if Ad0 P T then vC s (Ok P s T x lo hi mx) else (match mx with
  | none => lfS (U3 P s T x lo hi)
  | some _ => none)
 | .fieldAddr T x f => lf0 ((L0 P s T x f).map fun l => (l, s))
 | .field T x f => vl0 s (Y2 P s T x f)
 | .indexAddr T x y => if Nc s x then lfC s (J3 P s T x y) else lfC s (Ez P s T x y)
 | .index T x y => vC s (Oj P s T x y)
 | .extract x i => av0 s (Rg s x i)
 | .makeMap T h => (match h with
  | none => lf0 (Q9 P s nid T)
  | some _ => none)
 | .mapUpdate T m k v => stC ((U1 P s T m k v).map fun s' => ([], s'))
 | .lookup T m k ok => if ok then none else v0 s (Ra P s T m k)
 | .range T m => lf0 (Zj P s nid T m)
 | .entry it => av0 s (Zk s it)
 | .makeFunc f first captured => av0 s (U4 s f first.toList captured.toList)
 | .call c => match c.callee with
  | .builtin .len => (match c.args.toList, c.argTypes.toList with
   | [x], [T] => if Abn P T then (if Nc s x then v0 s (Q6 P s T x) else v0 s (Xm P s T x)) else if Ahw P T then v0 s (J5 P s T x) else v0 s (Fr P s o)
   | _, _ => none)
  | .builtin .append => (match c.args.toList, c.argTypes.toList with
   | [x, y], [T, U] => if Ad0 P U then lfS (K0 P s nid T U x y) else if U = T then (if Nc s x then lfS (Q7 P s nid T x y) else lfS (Rb P s nid T x y)) else none
   | _, _ => none)
  | .builtin .delete => (match c.args.toList, c.argTypes.toList with
   | [x, y], [T, U] => stC ((U2 P s T U x y).map fun s' => ([], s'))
   | _, _ => none)
  | .builtin .min => v0 s (Fr P s o)
  | .builtin .max => v0 s (Fr P s o)
  | _ => none
 | _ => none
section
variable {P : Program} {n B : Nat} {Iq : List Nat} {s : St} {g : Gh} {a : Act} {w : World}
def Gm (P : Program) (n B : Nat) (Iq : List Nat) (s : St) (g : Gh) (a : Act) (w : World) (o : Oper) (av : AV) (s' : St) : Prop :=
 ∀ (K : Act → World → Prop) (Q : Exit → Act → World → Prop), (∀ v g' w', Go B Iq s g w s' g' w' → Ax n B Iq s' g' a w' → Jq s' g' w' av v → K (a.put o.dst v) w') → o.wp P a w K Q
theorem Gm.val {o : Oper} {av : AV} {s' : St} {v : Value} {w' : World} {g' : Gh} (hr : (execOp a.eval o).run P w = .ok (.value v) w') (h1 : Go B Iq s g w s' g' w') (h2 : Ax n B Iq s' g' a w') (h3 : Jq s' g' w' av v) : Gm P n B Iq s g a w o av s' := by
 intro K Q hK
 unfold Oper.wp
 rw [hr, Oper.upon_value]
 exact hK v g' w' h1 h2 h3
theorem Gm.skip {o : Oper} {s' : St} {w' : World} {g' : Gh} (hr : (execOp a.eval o).run P w = .ok .skip w') (h1 : Go B Iq s g w s' g' w') (h2 : Ax n B Iq s' g' a w') : Gm P n B Iq s g a w o .dead s' := by
 intro K Q hK
 unfold Oper.wp
 rw [hr, Oper.upon_skip]
 exact hK _ g' w' h1 h2 trivial
theorem Gm.here {o : Oper} {av : AV} {v : Value} (h : Ax n B Iq s g a w) (hr : (execOp a.eval o).run P w = .ok (.value v) w) (h3 : Jq s g w av v) : Gm P n B Iq s g a w o av s :=
 Gm.val hr (Go.refl B Iq s g w) h h3
theorem Xv (h : Ax n B Iq s g a w) {nid : Nat} {T : TypeId} {x : Operand} {av : AV} {s' : St} (e : L7 P s nid T x = some (av, s')) :
  ∃ g', Go B Iq s g w s' g' w ∧ Ax n B Iq s' g' a w ∧ Jq s' g' w av (a.eval x) := by
 unfold L7 at e
 split at e
 ·rename_i hn
  unfold So at hn
  split at hn
  ·exact f8 h e
  ·cases hn
 ·cases e
  exact ⟨g, Go.refl B Iq s g w, h, Aaa h x⟩
theorem Acx (h : Ax n B Iq s g a w) {c x y : Operand} {av : AV} (e : L8 s c x y = some av) :
  ∃ t : Bool, a.eval c = .bool t ∧ Jq s g w av (bif t then a.eval x else a.eval y) := by
 unfold L8 at e
 split at e
 ·rename_i t hc
  refine ⟨t, (Be h hc).1, ?_⟩
  split at e
  ·rename_i p q hb
   cases e
   unfold Zp at hb
   split at hb <;> cases hb
   rename_i hx hy
   rw [(Be h hx).1, (Be h hy).1]
   cases t
   ·exact ⟨rfl, rfl⟩
   ·exact ⟨rfl, rfl⟩
  ·cases e
   cases t
   ·exact Aaa h y
   ·exact Aaa h x
 ·cases e
theorem Zq (h : Ax n B Iq s g a w) {x : Operand} {i : Nat} {av : AV} (e : Rg s x i = some av) :
  ∃ v, (Instr.extract (a.eval x) i).run P w = .ok v w ∧ Jq s g w av v := by
 unfold Rg at e
 split at e
 ·rename_i vs hx
  split at e <;> cases e
  rename_i v hv
  have k := Aaa h x
  rw [hx] at k
  obtain ⟨us, hu, hsz, hk⟩ := k
  obtain ⟨u, e1, e2⟩ := hk i v hv
  refine ⟨u, ?_, e2⟩
  rw [hu]
  simp [Instr.extract, e1]
 ·cases e
theorem Ww (h : Ax n B Iq s g a w) {x : Operand} {av : AV} (e : Ol s x = some av) :
  (∃ ad, a.eval x = .pointer (some ad)) ∧ Jq s g w av (a.eval x) := by
 unfold Ol at e
 split at e
 ·rename_i id off hx
  obtain ⟨hl, h1⟩ := Bf h hx
  split at e <;> cases e
  rename_i T ls hr
  refine ⟨?_, hl, h1⟩
  simp only [Bi, hr] at hl
  obtain ⟨b, _, hu⟩ := hl
  exact ⟨_, hu⟩
 ·rename_i t xs i off hx
  obtain ⟨hl, h1⟩ := Bf h hx
  cases e
  refine ⟨?_, hl, h1⟩
  obtain ⟨ad, cs, hu, _⟩ := hl
  exact ⟨_, hu⟩
 ·rename_i id i off hx
  obtain ⟨hl, h1⟩ := Bf h hx
  split at e <;> cases e
  rename_i T t xs hr
  refine ⟨?_, hl, h1⟩
  simp only [Bi, hr] at hl
  obtain ⟨_, b, _, hu⟩ := hl
  exact ⟨_, hu⟩
 ·cases e
theorem Xw (h : Ax n B Iq s g a w) : ∀ {xs : List Operand} {ls : List Lf}, T1 s xs = some ls → Cy s g w ls (xs.map a.eval)
 | [], ls, e => by cases e; trivial
 | x :: r, ls, e => by
  simp only [T1] at e
  obtain ⟨l, e1, e⟩ := Option.bind_eq_some_iff.1 e
  obtain ⟨ls', e2, e⟩ := Option.bind_eq_some_iff.1 e
  cases e
  exact ⟨Bf h e1, Xw h e2⟩
theorem T3 {x : Option (List Bool × Lf)} {r : AV × St} (e : F0 (lfC s x) = some r) : ∃ l, F0 x = some l ∧ r = (.vl (.lf l), s) := by
 obtain ⟨cs, e1, e2⟩ := A6 e
 unfold lfC at e1
 split at e1 <;> cases e1
 exact ⟨_, by simp [F0, e2], rfl⟩
theorem Pw {x : Option (List Bool × Lf × St)} {r : AV × St} (e : F0 (lfS x) = some r) : ∃ l s', F0 x = some (l, s') ∧ r = (.vl (.lf l), s') := by
 obtain ⟨cs, e1, e2⟩ := A6 e
 unfold lfS at e1
 split at e1 <;> cases e1
 exact ⟨_, _, by simp [F0, e2], rfl⟩
theorem Px {x : Option (List Bool × St)} {r : AV × St} (e : F0 (stC x) = some r) : ∃ s', F0 x = some s' ∧ r = (.dead, s') := by
 obtain ⟨cs, e1, e2⟩ := A6 e
 unfold stC at e1
 split at e1 <;> cases e1
 exact ⟨_, by simp [F0, e2], rfl⟩
theorem Om {x : Option (List Bool × Value)} {r : AV × St} (e : F0 (vC s x) = some r) : ∃ v, F0 x = some v ∧ r = (.vl (.lf (.c v)), s) := by
 obtain ⟨cs, e1, e2⟩ := A6 e
 unfold vC at e1
 split at e1 <;> cases e1
 exact ⟨_, by simp [F0, e2], rfl⟩
theorem I9 {x : Option (Lf × St)} {r : AV × St} (e : F0 (lf0 x) = some r) : ∃ l s', x = some (l, s') ∧ r = (.vl (.lf l), s') := by
 obtain ⟨cs, e1, e2⟩ := A6 e
 unfold lf0 at e1
 split at e1 <;> cases e1
 exact ⟨_, _, rfl, rfl⟩
theorem K1 {x : Option Value} {r : AV × St} (e : F0 (v0 s x) = some r) : ∃ v, x = some v ∧ r = (.vl (.lf (.c v)), s) := by
 obtain ⟨cs, e1, e2⟩ := A6 e
 unfold v0 at e1
 split at e1 <;> cases e1
 exact ⟨_, rfl, rfl⟩
theorem T4 {x : Option Vl} {r : AV × St} (e : F0 (vl0 s x) = some r) : ∃ v, x = some v ∧ r = (.vl v, s) := by
 obtain ⟨cs, e1, e2⟩ := A6 e
 unfold vl0 at e1
 split at e1 <;> cases e1
 exact ⟨_, rfl, rfl⟩
theorem Nf {x : Option AV} {r : AV × St} (e : F0 (av0 s x) = some r) : ∃ v, x = some v ∧ r = (v, s) := by
 obtain ⟨cs, e1, e2⟩ := A6 e
 unfold av0 at e1
 split at e1 <;> cases e1
 exact ⟨_, rfl, rfl⟩
theorem T5 {x : Option (AV × St)} {r : AV × St} (e : F0 (avS x) = some r) : x = some r := by
 obtain ⟨cs, e1, e2⟩ := A6 e
 unfold avS at e1
 split at e1 <;> cases e1
 rfl
theorem Abo {x : Option St} {s' : St} (e : F0 (x.map fun s' => (([] : List Bool), s')) = some s') : x = some s' := by
 cases x with
 | none => cases e
 | some y => exact e
theorem F6 {v : Value} (h1 : v.oneCell' = true) : Jq s g w (.vl (.lf (.c v))) v := ⟨rfl, h1⟩
theorem i5 (h : Ax n B Iq s g a w) {nid : Nat} {o : Oper} {av : AV} {s' : St} (e : F0 (J6 P s nid o) = some (av, s')) : Gm P n B Iq s g a w o av s' := by
 obtain ⟨dst, op, type, pos, after, guard⟩ := o
 have viaConc : ∀ {op : Op}, (∀ cs b, op ≠ .select cs b) → F0 (v0 s (Fr P s ⟨dst, op, type, pos, after, guard⟩)) = some (av, s') → Gm P n B Iq s g a w ⟨dst, op, type, pos, after, guard⟩ av s' := by
  intro op hs e
  obtain ⟨v, e1, e2⟩ := K1 e
  cases e2
  obtain ⟨k1, k2⟩ := Acn h hs e1
  exact Gm.here h k1 (F6 k2)
 cases op <;> simp only [J6] at e <;> first | (cases e; done) | skip
 case move x =>
  obtain ⟨g', k1, k2, k3⟩ := Xv h (T5 e)
  exact Gm.val (v := a.eval x) (by simp [execOp]) k1 k2 k3
 case assign x =>
  obtain ⟨g', k1, k2, k3⟩ := Xv h (T5 e)
  exact Gm.val (v := a.eval x) (by simp [execOp]) k1 k2 k3
 case pick c x y =>
  obtain ⟨v, e1, e2⟩ := Nf e
  cases e2
  obtain ⟨t, k1, k2⟩ := Acx h e1
  refine Gm.here h (v := bif t then a.eval x else a.eval y) ?_ k2
  simp only [execOp, k1]
  cases t <;> simp [asBool]
 case alloc T =>
  obtain ⟨l, s1, e1, e2⟩ := I9 e
  cases e2
  obtain ⟨x, w', g', k1, k2, k3, k4, k5⟩ := Aac h e1
  exact Gm.val (v := x) (by simp [execOp, k1]) k2 k3 ⟨k4, k5⟩
 case box T x =>
  split at e
  ·rename_i v hv
   obtain ⟨l, s1, e1, e2⟩ := I9 e
   cases e2
   obtain ⟨x', w', g', k1, k2, k3, k4, k5⟩ := Ads (P := P) h (Ks h hv) e1
   exact Gm.val (v := x') (by simp [execOp, k1]) k2 k3 ⟨k4, k5⟩
  ·cases e
 case build T parts =>
  obtain ⟨v, e1, e2⟩ := T4 e
  cases e2
  obtain ⟨u, k1, k2⟩ := Aad h e1
  exact Gm.here h (v := u) (by simp only [execOp, Sem.run_bind, k1]; rfl) k2
 case buildSlice T len parts =>
  split at e
  ·rename_i hsl
   have hlen : len = 1 := by
    unfold Ady at hsl
    split at hsl
    ·split at hsl
     ·exact Nat.eq_of_beq_eq_true hsl
     ·cases hsl
    ·cases hsl
   subst hlen
   obtain ⟨l, s1, e1, e2⟩ := I9 e
   cases e2
   obtain ⟨u, w', g', k1, k2, k3, k4, k5⟩ := g6 h e1
   exact Gm.val (v := u) (by simp only [execOp, Sem.run_bind, k1]; rfl) k2 k3 ⟨k4, k5⟩
  ·obtain ⟨l, s1, e1, e2⟩ := I9 e
   cases e2
   obtain ⟨u, w', g', k1, k2, k3, k4, k5⟩ := S9 h e1
   exact Gm.val (v := u) (by simp only [execOp, Sem.run_bind, k1]; rfl) k2 k3 ⟨k4, k5⟩
 case load T x =>
  split at e
  ·obtain ⟨l, e1, e2⟩ := T3 e
   cases e2
   obtain ⟨u, k1, k2, k3⟩ := Aak h e1
   exact Gm.here h (v := u) (by simp [execOp, k1]) ⟨k2, k3⟩
  ·obtain ⟨v, e1, e2⟩ := T4 e
   cases e2
   obtain ⟨u, k1, k2⟩ := Aco h e1
   exact Gm.here h (v := u) (by simp [execOp, k1]) k2
 case store T x y =>
  split at e
  ·obtain ⟨s1, e1, e2⟩ := Px e
   cases e2
   obtain ⟨w', g', k1, k2, k3⟩ := f9 h e1
   exact Gm.skip (by simp [execOp, k1]) k2 k3
  ·obtain ⟨s1, e1, e2⟩ := Px e
   cases e2
   obtain ⟨w', g', k1, k2, k3⟩ := Aag h (Zo e1)
   exact Gm.skip (by simp [execOp, k1]) k2 k3
 case nilCheck x =>
  obtain ⟨v, e1, e2⟩ := Nf e
  cases e2
  obtain ⟨⟨ad, k1⟩, k2⟩ := Ww h e1
  refine Gm.here h (v := a.eval x) ?_ k2
  simp [execOp, k1]
 case binOp op T x y U =>
  have viaV : ∀ {op : BinOp} {v : Value}, ((do eqGuard op T x y (a.eval x) (a.eval y); binOp op T (a.eval x) (a.eval y)) : Sem Value).run P w = .ok v w ∧ v.oneCell' = true → Gm P n B Iq s g a w ⟨dst, .binOp op T x y U, type, pos, after, guard⟩ (.vl (.lf (.c v))) s := by
   intro op v hv
   refine Gm.here h (v := v) ?_ (F6 hv.2)
   simp only [execOp, Sem.run_bind] at hv ⊢
   rw [hv.1]
   rfl
  have hsel : ∀ (op : BinOp) cs b, Op.binOp op T x y U ≠ .select cs b := by intro op cs b q; cases q
  split at e
  ·split at e
   ·obtain ⟨v, e1, e2⟩ := Om e
    cases e2
    exact viaV (e9 h e1)
   ·exact viaConc (hsel _) e
  ·obtain ⟨v, e1, e2⟩ := Om e
   cases e2
   exact viaV (Ux h e1)
  ·obtain ⟨v, e1, e2⟩ := Om e
   cases e2
   exact viaV (Ux h e1)
  ·obtain ⟨v, e1, e2⟩ := Om e
   cases e2
   exact viaV (Ux h e1)
  ·split at e
   ·obtain ⟨v, e1, e2⟩ := K1 e
    cases e2
    exact viaV (Xs h e1)
   ·exact viaConc (hsel _) e
  ·split at e
   ·obtain ⟨v, e1, e2⟩ := K1 e
    cases e2
    exact viaV (Xs h e1)
   ·exact viaConc (hsel _) e
  ·exact viaConc (hsel _) e
 case unOp op T x => exact viaConc (by intro cs b q; cases q) e
 case convert T U x =>
  split at e
  ·obtain ⟨v, e1, e2⟩ := K1 e
   cases e2
   obtain ⟨k1, k2⟩ := Ws h e1
   exact Gm.here h (v := v) (by simp [execOp, k1]) (F6 k2)
  ·exact viaConc (by intro cs b q; cases q) e
 case makeSlice T x y =>
  obtain ⟨l, s1, e1, e2⟩ := Pw e
  cases e2
  obtain ⟨u, w', g', k1, k2, k3, k4, k5⟩ := Uq h (Re e1)
  exact Gm.val (v := u) (by simp [execOp, k1]) k2 k3 ⟨k4, k5⟩
 case slice T x lo hi mx =>
  split at e
  ·obtain ⟨v, e1, e2⟩ := Om e
   cases e2
   obtain ⟨k1, k2⟩ := Wu h e1
   exact Gm.here h (v := v) (by simp only [execOp, Sem.run_bind, k1]; rfl) (F6 k2)
  ·split at e
   ·obtain ⟨l, s1, e1, e2⟩ := Pw e
    cases e2
    obtain ⟨u, g', k1, k2, k3, k4, k5⟩ := Aae h (Zn e1)
    exact Gm.val (v := u) (by simp only [execOp, Sem.run_bind, Option.map_none, k1]; rfl) k2 k3 ⟨k4, k5⟩
   ·cases e
 case fieldAddr T x f =>
  obtain ⟨l, s1, e1, e2⟩ := I9 e
  cases e2
  obtain ⟨l', e3, e4⟩ := Option.map_eq_some_iff.1 e1
  cases e4
  obtain ⟨u, k1, k2, k3⟩ := Uk h e3
  exact Gm.here h (v := u) (by simp [execOp, k1]) ⟨k2, k3⟩
 case field T x f =>
  obtain ⟨v, e1, e2⟩ := T4 e
  cases e2
  obtain ⟨u, k1, k2⟩ := Aab h e1
  exact Gm.here h (v := u) (by simp [execOp, k1]) k2
 case indexAddr T x y =>
  split at e
  ·obtain ⟨l, e1, e2⟩ := T3 e
   cases e2
   obtain ⟨u, k1, k2, k3⟩ := f6 h e1
   exact Gm.here h (v := u) (by simp [execOp, k1]) ⟨k2, k3⟩
  ·obtain ⟨l, e1, e2⟩ := T3 e
   cases e2
   obtain ⟨u, k1, k2, k3⟩ := Ul h (Rc e1)
   exact Gm.here h (v := u) (by simp [execOp, k1]) ⟨k2, k3⟩
 case index T x y =>
  obtain ⟨v, e1, e2⟩ := Om e
  cases e2
  obtain ⟨k1, k2⟩ := Wt h e1
  exact Gm.here h (v := v) (by simp [execOp, k1]) (F6 k2)
 case extract x i =>
  obtain ⟨v, e1, e2⟩ := Nf e
  cases e2
  obtain ⟨u, k1, k2⟩ := Zq (P := P) h e1
  exact Gm.here h (v := u) (by simp [execOp, k1]) k2
 case makeMap T hint =>
  cases hint with
  | some _ => cases e
  | none =>
   obtain ⟨l, s1, e1, e2⟩ := I9 e
   cases e2
   obtain ⟨u, w', g', k1, k2, k3, k4, k5⟩ := Zm h e1
   exact Gm.val (v := u) (by simp [execOp, k1]) k2 k3 ⟨k4, k5⟩
 case mapUpdate T m k v =>
  obtain ⟨s1, e1, e2⟩ := Px e
  cases e2
  obtain ⟨w', g', k1, k2, k3⟩ := g8 h (Abo e1)
  exact Gm.skip (by simp [execOp, k1]) k2 k3
 case lookup T m k ok =>
  cases ok with
  | true => cases e
  | false =>
   obtain ⟨v, e1, e2⟩ := K1 e
   cases e2
   obtain ⟨k1, k2⟩ := Zl h e1
   exact Gm.here h (v := v) (by simp [execOp, k1]) (F6 k2)
 case range T m =>
  obtain ⟨l, s1, e1, e2⟩ := I9 e
  cases e2
  obtain ⟨u, w', g', k1, k2, k3, k4, k5⟩ := Aal h e1
  exact Gm.val (v := u) (by simp [execOp, k1]) k2 k3 ⟨k4, k5⟩
 case entry it =>
  obtain ⟨av, e1, e2⟩ := Nf e
  cases e2
  obtain ⟨v, k1, k2⟩ := Aam (P := P) h e1
  exact Gm.here h (v := v) (by simp [execOp, k1]) k2
 case makeFunc f first captured =>
  obtain ⟨v, e1, e2⟩ := Nf e
  cases e2
  unfold U4 at e1
  split at e1
  ·rename_i f0 hfirst
   obtain ⟨ls, q1, rfl⟩ := Option.map_eq_some_iff.1 e1
   have hf' : first = #[] := by apply Array.toList_inj.1; simpa using hfirst
   subst hf'
   refine Gm.here h (v := .func (.func f0) #[] (captured.map a.eval)) (by simp [execOp, Instr.makeFunc]) ⟨_, rfl, ?_⟩
   rw [Array.toList_map]
   exact Xw h q1
  ·cases e1
 case call c =>
  obtain ⟨callee, args, argTypes⟩ := c
  simp only at e
  split at e
  ·split at e
   ·rename_i x T ha ht
    have ha' : args = #[x] := by apply Array.toList_inj.1; simpa using ha
    have ht' : argTypes = #[T] := by apply Array.toList_inj.1; simpa using ht
    subst ha' ht'
    split at e
    ·split at e
     ·obtain ⟨v, e1, e2⟩ := K1 e
      cases e2
      obtain ⟨k1, k2⟩ := Acu (ty := type) h e1
      exact Gm.here h (v := v) (by simp [execOp, resolve, invoke, builtin, k1]) (F6 k2)
     ·obtain ⟨v, e1, e2⟩ := K1 e
      cases e2
      obtain ⟨k1, k2⟩ := Adr (ty := type) h e1
      exact Gm.here h (v := v) (by simp [execOp, resolve, invoke, builtin, k1]) (F6 k2)
    ·split at e
     ·obtain ⟨v, e1, e2⟩ := K1 e
      cases e2
      obtain ⟨k1, k2⟩ := h9 (ty := type) h e1
      exact Gm.here h (v := v) (by simp [execOp, resolve, invoke, builtin, k1]) (F6 k2)
     ·exact viaConc (by intro cs b q; cases q) e
   ·cases e
  ·split at e
   ·rename_i x y T U ha ht
    have ha' : args = #[x, y] := by apply Array.toList_inj.1; simpa using ha
    have ht' : argTypes = #[T, U] := by apply Array.toList_inj.1; simpa using ht
    subst ha' ht'
    split at e
    ·obtain ⟨l, s1, e1, e2⟩ := Pw e
     cases e2
     obtain ⟨u, w', g', k1, k2, k3, k4, k5⟩ := Uo (ty := type) h (Rf e1)
     exact Gm.val (v := u) (by simp [execOp, resolve, invoke, builtin, k1]) k2 k3 ⟨k4, k5⟩
    ·split at e
     ·rename_i hUT
      subst hUT
      split at e
      ·obtain ⟨l, s1, e1, e2⟩ := Pw e
       cases e2
       obtain ⟨u, w', g', k1, k2, k3, k4, k5⟩ := Zg (ty := type) h e1
       exact Gm.val (v := u) (by simp [execOp, resolve, invoke, builtin, k1]) k2 k3 ⟨k4, k5⟩
      ·obtain ⟨l, s1, e1, e2⟩ := Pw e
       cases e2
       obtain ⟨u, w', g', k1, k2, k3, k4, k5⟩ := d6 (ty := type) h (Wv e1)
       exact Gm.val (v := u) (by simp [execOp, resolve, invoke, builtin, k1]) k2 k3 ⟨k4, k5⟩
     ·cases e
   ·cases e
  ·split at e
   ·rename_i x y T U ha ht
    have ha' : args = #[x, y] := by apply Array.toList_inj.1; simpa using ha
    have ht' : argTypes = #[T, U] := by apply Array.toList_inj.1; simpa using ht
    subst ha' ht'
    obtain ⟨s1, e1, e2⟩ := Px e
    cases e2
    obtain ⟨w', g', k1, k2, k3⟩ := g9 (ty := type) h (Abo e1)
    exact Gm.val (v := .tuple #[]) (by simp [execOp, resolve, invoke, builtin, k1]) k2 k3 trivial
   ·cases e
  ·exact viaConc (by intro cs b q; cases q) e
  ·exact viaConc (by intro cs b q; cases q) e
  ·cases e
end
end Go.Proofs.Ytkfoebbjncngjaa.R

