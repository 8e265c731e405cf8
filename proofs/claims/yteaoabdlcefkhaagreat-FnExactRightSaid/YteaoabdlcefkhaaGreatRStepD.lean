/- One operation is the machine's. No condition. -/
import Derived.Test.YteaoabdlcefkhaaGreatRStepC
namespace Go.Proofs.YteaoabdlcefkhaaGreat.R
open Go Go.RowKit
set_option linter.unusedVariables false
set_option linter.unusedSimpArgs false
structure SD where
 sg : Sig
 den : Tj sg.ps → Option (Tj sg.rs × BxD sg.ps)
def Jt (P : Program) (f : FuncId) : Prop := ∃ fn, P.funcs[f]? = some fn ∧ (fn.name == "runtime.NumGoroutine") = false ∧ fn.body.isNone = false
def Aqa : Operand → Bool
 | .const (.slice none 0 0) => true
 | _ => false
def Y4 (P : Program) (s : St) (nid : Nat) (T : TypeId) (x : Operand) : Option (AV × St) :=
 if Aqa x then Atw P s nid T else some (s.op x, s)
def Ar0 (s : St) (x y : Operand) : Option (Bool × Bool) := match s.conc x, s.conc y with
 | some (.bool p), some (.bool q) => some (p, q)
 | _, _ => none
def Y5 (s : St) (c x y : Operand) : Option AV := match s.conc c with
 | some (.bool t) => match Ar0 s x y with
  | some (p, q) => some (.vl (.lf (.c (.bool (bif t then p else q)))))
  | none => some (bif t then s.op x else s.op y)
 | _ => none
def Ae4 (s : St) (x : Operand) (i : Nat) : Option AV := match s.op x with
 | .tp vs => match vs[i]? with
  | some v => some (.vl v)
  | none => none
 | _ => none
def Aaj (s : St) (x : Operand) : Option AV := match s.leaf x with
 | some (.ptr id off) => match s.res id with
  | .box _ _ => some (.vl (.lf (.ptr id off)))
  | _ => none
 | some (.ep t xs i off) => some (.vl (.lf (.ep t xs i off)))
 | some (.rp id i off) => match s.res id with
  | .row _ _ _ => some (.vl (.lf (.rp id i off)))
  | _ => none
 | _ => none
abbrev Cd := Option (List Bool × AV × St)
def lfC (s : St) (x : Option (List Bool × Lf)) : Cd := match x with
 | some (cs, l) => some (cs, .vl (.lf l), s)
 | none => none
def lfS (x : Option (List Bool × Lf × St)) : Cd := match x with
 | some (cs, l, s) => some (cs, .vl (.lf l), s)
 | none => none
def lf0 (x : Option (Lf × St)) : Cd := match x with
 | some (l, s) => some ([], .vl (.lf l), s)
 | none => none
def vC (s : St) (x : Option (List Bool × Value)) : Cd := match x with
 | some (cs, v) => some (cs, .vl (.lf (.c v)), s)
 | none => none
def v0 (s : St) (x : Option Value) : Cd := match x with
 | some v => some ([], .vl (.lf (.c v)), s)
 | none => none
def vl0 (s : St) (x : Option Vl) : Cd := match x with
 | some v => some ([], .vl v, s)
 | none => none
def av0 (s : St) (x : Option AV) : Cd := match x with
 | some v => some ([], v, s)
 | none => none
def avS (x : Option (AV × St)) : Cd := match x with
 | some (v, s) => some ([], v, s)
 | none => none
def stC (x : Option (List Bool × St)) : Cd := match x with
 | some (cs, s) => some (cs, .dead, s)
 | none => none
def A3q (s : St) (x : Operand) : Bool := match s.value x with
 | some (.ag _) => true
 | _ => false
def A39 (s : St) (x : Operand) : Bool := match s.conc x with
 | some (.string _) => true
 | _ => false
def Ax5 (P : Program) (T : TypeId) : Bool := match P.underlying T with
 | some (.slice _) => true
 | _ => false
def A0s (P : Program) (T : TypeId) : Bool := match P.underlying T with
 | some .string => true
 | _ => false
def Aka (s : St) : List Operand → Option (List Lf)
 | [] => some []
 | x :: r => (s.leaf x).bind fun l => (Aka s r).bind fun ls => some (l :: ls)
def Ale (s : St) (f : Fn) (first captured : List Operand) : Option AV := match f, first with
 | .func f, [] => (Aka s captured).map (AV.fn f)
 | _, _ => none
def U8 (P : Program) (s : St) (nid : Nat) (o : Oper) : Cd := match o.op with
 | .move x => avS (Y4 P s nid o.type x)
 | .assign x => avS (Y4 P s nid o.type x)
 | .pick c x y => av0 s (Y5 s c x y)
 | .alloc T => lf0 (Arg P s nid T)
 | .box T x => match s.value x with
  | some v => lf0 (A0h s nid T v)
  | none => none
 | .build T parts => vl0 s (Arh P s T parts)
 | .buildSlice T len parts => if A0q P T len then lf0 (Ak9 P s nid T parts.toList) else lf0 (Wm P s nid T len parts)
 | .load T x => if Ab6 s x then lfC s (Arr P s T x) else vl0 s (Aku P s T x)
 | .store T x y => if Ab6 s x then stC (Ab7 P s T x y) else stC (Y3 P s T x y)
 | .nilCheck x => av0 s (Aaj s x)
 | .binOp op T x y U => match op with
  | .add => if A39 s x then vC s (Ak8 s .add x y) else v0 s (L9 P s o)
  | .quo => vC s (Ax0 s .quo x y)
  | .rem => vC s (Ax0 s .rem x y)
  | .eql => if A3q s x then v0 s (Arq P s .eql T x y) else v0 s (L9 P s o)
  | .neq => if A3q s x then v0 s (Arq P s .neq T x y) else v0 s (L9 P s o)
  | _ => v0 s (L9 P s o)
 | .unOp _ _ _ => v0 s (L9 P s o)
 | .convert T U x => if Ax5 P T then v0 s (Aac P s T U x) else v0 s (L9 P s o)
 | .makeSlice T x y => lfS (Wv P s nid T x y)
 | .slice T x lo hi mx => if A0s P T then vC s (Aai P s T x lo hi mx) else (match mx with
  | none => lfS (Ald P s T x lo hi)
  | some _ => none)
 | .fieldAddr T x f => lf0 ((Yv P s T x f).map fun l => (l, s))
 | .field T x f => vl0 s (Arf P s T x f)
 | .indexAddr T x y => if j5 s x then lfC s (U4 P s T x y) else lfC s (K7 P s T x y)
 | .index T x y => vC s (Aah P s T x y)
 | .extract x i => av0 s (Ae4 s x i)
 | .makeMap T h => (match h with
  | none => lf0 (Aey P s nid T)
  | some _ => none)
 | .mapUpdate T m k v => stC ((Alb P s T m k v).map fun s' => ([], s'))
 | .lookup T m k ok => if ok then none else v0 s (Aez P s T m k)
 | .range T m => lf0 (Aru P s nid T m)
 | .entry it => av0 s (Arv s it)
 | .makeFunc f first captured => av0 s (Ale s f first.toList captured.toList)
 | .call c => match c.callee with
  | .builtin .len => (match c.args.toList, c.argTypes.toList with
   | [x], [T] => if Ax5 P T then (if j5 s x then v0 s (Aew P s T x) else v0 s (Ap0 P s T x)) else if A37 P T then v0 s (U7 P s T x) else v0 s (L9 P s o)
   | _, _ => none)
  | .builtin .append => (match c.args.toList, c.argTypes.toList with
   | [x, y], [T, U] => if A0s P U then lfS (Ww P s nid T U x y) else if U = T then (if j5 s x then lfS (Aex P s nid T x y) else lfS (Ae0 P s nid T x y)) else none
   | _, _ => none)
  | .builtin .delete => (match c.args.toList, c.argTypes.toList with
   | [x, y], [T, U] => stC ((Alc P s T U x y).map fun s' => ([], s'))
   | _, _ => none)
  | .builtin .min => v0 s (L9 P s o)
  | .builtin .max => v0 s (L9 P s o)
  | _ => none
 | _ => none
section
variable {P : Program} {n B : Nat} {Iq : List Nat} {s : St} {g : Gh} {a : Act} {w : World}
def Ou (P : Program) (n B : Nat) (Iq : List Nat) (s : St) (g : Gh) (a : Act) (w : World) (o : Oper) (av : AV) (s' : St) : Prop :=
 ∀ (K : Act → World → Prop) (Q : Exit → Act → World → Prop), (∀ v g' w', Go B Iq s g w s' g' w' → B0 n B Iq s' g' a w' → Ui s' g' w' av v → K (a.put o.dst v) w') → o.wp P a w K Q
theorem Ou.val {o : Oper} {av : AV} {s' : St} {v : Value} {w' : World} {g' : Gh} (hr : (execOp a.eval o).run P w = .ok (.value v) w') (h1 : Go B Iq s g w s' g' w') (h2 : B0 n B Iq s' g' a w') (h3 : Ui s' g' w' av v) : Ou P n B Iq s g a w o av s' := by
 intro K Q hK
 unfold Oper.wp
 rw [hr, Oper.upon_value]
 exact hK v g' w' h1 h2 h3
theorem Ou.skip {o : Oper} {s' : St} {w' : World} {g' : Gh} (hr : (execOp a.eval o).run P w = .ok .skip w') (h1 : Go B Iq s g w s' g' w') (h2 : B0 n B Iq s' g' a w') : Ou P n B Iq s g a w o .dead s' := by
 intro K Q hK
 unfold Oper.wp
 rw [hr, Oper.upon_skip]
 exact hK _ g' w' h1 h2 trivial
theorem Ou.here {o : Oper} {av : AV} {v : Value} (h : B0 n B Iq s g a w) (hr : (execOp a.eval o).run P w = .ok (.value v) w) (h3 : Ui s g w av v) : Ou P n B Iq s g a w o av s :=
 Ou.val hr (Go.refl B Iq s g w) h h3
theorem Aqb (h : B0 n B Iq s g a w) {nid : Nat} {T : TypeId} {x : Operand} {av : AV} {s' : St} (e : Y4 P s nid T x = some (av, s')) :
  ∃ g', Go B Iq s g w s' g' w ∧ B0 n B Iq s' g' a w ∧ Ui s' g' w av (a.eval x) := by
 unfold Y4 at e
 split at e
 ·rename_i hn
  unfold Aqa at hn
  split at hn
  ·exact Aty h e
  ·cases hn
 ·cases e
  exact ⟨g, Go.refl B Iq s g w, h, Awj h x⟩
theorem Azm (h : B0 n B Iq s g a w) {c x y : Operand} {av : AV} (e : Y5 s c x y = some av) :
  ∃ t : Bool, a.eval c = .bool t ∧ Ui s g w av (bif t then a.eval x else a.eval y) := by
 unfold Y5 at e
 split at e
 ·rename_i t hc
  refine ⟨t, (Dx h hc).1, ?_⟩
  split at e
  ·rename_i p q hb
   cases e
   unfold Ar0 at hb
   split at hb <;> cases hb
   rename_i hx hy
   rw [(Dx h hx).1, (Dx h hy).1]
   cases t
   ·exact ⟨rfl, rfl⟩
   ·exact ⟨rfl, rfl⟩
  ·cases e
   cases t
   ·exact Awj h y
   ·exact Awj h x
 ·cases e
theorem Ar1 (h : B0 n B Iq s g a w) {x : Operand} {i : Nat} {av : AV} (e : Ae4 s x i = some av) :
  ∃ v, (Instr.extract (a.eval x) i).run P w = .ok v w ∧ Ui s g w av v := by
 unfold Ae4 at e
 split at e
 ·rename_i vs hx
  split at e <;> cases e
  rename_i v hv
  have k := Awj h x
  rw [hx] at k
  obtain ⟨us, hu, hsz, hk⟩ := k
  obtain ⟨u, e1, e2⟩ := hk i v hv
  refine ⟨u, ?_, e2⟩
  rw [hu]
  simp [Instr.extract, e1]
 ·cases e
theorem Aor (h : B0 n B Iq s g a w) {x : Operand} {av : AV} (e : Aaj s x = some av) :
  (∃ ad, a.eval x = .pointer (some ad)) ∧ Ui s g w av (a.eval x) := by
 unfold Aaj at e
 split at e
 ·rename_i id off hx
  obtain ⟨hl, h1⟩ := C4 h hx
  split at e <;> cases e
  rename_i T ls hr
  refine ⟨?_, hl, h1⟩
  simp only [Dl, hr] at hl
  obtain ⟨b, _, hu⟩ := hl
  exact ⟨_, hu⟩
 ·rename_i t xs i off hx
  obtain ⟨hl, h1⟩ := C4 h hx
  cases e
  refine ⟨?_, hl, h1⟩
  obtain ⟨ad, cs, hu, _⟩ := hl
  exact ⟨_, hu⟩
 ·rename_i id i off hx
  obtain ⟨hl, h1⟩ := C4 h hx
  split at e <;> cases e
  rename_i T t xs hr
  refine ⟨?_, hl, h1⟩
  simp only [Dl, hr] at hl
  obtain ⟨_, b, _, hu⟩ := hl
  exact ⟨_, hu⟩
 ·cases e
theorem Aqc (h : B0 n B Iq s g a w) : ∀ {xs : List Operand} {ls : List Lf}, Aka s xs = some ls → G8 s g w ls (xs.map a.eval)
 | [], ls, e => by cases e; trivial
 | x :: r, ls, e => by
  simp only [Aka] at e
  obtain ⟨l, e1, e⟩ := Option.bind_eq_some_iff.1 e
  obtain ⟨ls', e2, e⟩ := Option.bind_eq_some_iff.1 e
  cases e
  exact ⟨C4 h e1, Aqc h e2⟩
theorem Akb {x : Option (List Bool × Lf)} {r : AV × St} (e : M1 (lfC s x) = some r) : ∃ l, M1 x = some l ∧ r = (.vl (.lf l), s) := by
 obtain ⟨cs, e1, e2⟩ := Ct e
 unfold lfC at e1
 split at e1 <;> cases e1
 exact ⟨_, by simp [M1, e2], rfl⟩
theorem Ab9 {x : Option (List Bool × Lf × St)} {r : AV × St} (e : M1 (lfS x) = some r) : ∃ l s', M1 x = some (l, s') ∧ r = (.vl (.lf l), s') := by
 obtain ⟨cs, e1, e2⟩ := Ct e
 unfold lfS at e1
 split at e1 <;> cases e1
 exact ⟨_, _, by simp [M1, e2], rfl⟩
theorem Aca {x : Option (List Bool × St)} {r : AV × St} (e : M1 (stC x) = some r) : ∃ s', M1 x = some s' ∧ r = (.dead, s') := by
 obtain ⟨cs, e1, e2⟩ := Ct e
 unfold stC at e1
 split at e1 <;> cases e1
 exact ⟨_, by simp [M1, e2], rfl⟩
theorem Ae5 {x : Option (List Bool × Value)} {r : AV × St} (e : M1 (vC s x) = some r) : ∃ v, M1 x = some v ∧ r = (.vl (.lf (.c v)), s) := by
 obtain ⟨cs, e1, e2⟩ := Ct e
 unfold vC at e1
 split at e1 <;> cases e1
 exact ⟨_, by simp [M1, e2], rfl⟩
theorem Tk {x : Option (Lf × St)} {r : AV × St} (e : M1 (lf0 x) = some r) : ∃ l s', x = some (l, s') ∧ r = (.vl (.lf l), s') := by
 obtain ⟨cs, e1, e2⟩ := Ct e
 unfold lf0 at e1
 split at e1 <;> cases e1
 exact ⟨_, _, rfl, rfl⟩
theorem Wx {x : Option Value} {r : AV × St} (e : M1 (v0 s x) = some r) : ∃ v, x = some v ∧ r = (.vl (.lf (.c v)), s) := by
 obtain ⟨cs, e1, e2⟩ := Ct e
 unfold v0 at e1
 split at e1 <;> cases e1
 exact ⟨_, rfl, rfl⟩
theorem Akc {x : Option Vl} {r : AV × St} (e : M1 (vl0 s x) = some r) : ∃ v, x = some v ∧ r = (.vl v, s) := by
 obtain ⟨cs, e1, e2⟩ := Ct e
 unfold vl0 at e1
 split at e1 <;> cases e1
 exact ⟨_, rfl, rfl⟩
theorem j7 {x : Option AV} {r : AV × St} (e : M1 (av0 s x) = some r) : ∃ v, x = some v ∧ r = (v, s) := by
 obtain ⟨cs, e1, e2⟩ := Ct e
 unfold av0 at e1
 split at e1 <;> cases e1
 exact ⟨_, rfl, rfl⟩
theorem Akd {x : Option (AV × St)} {r : AV × St} (e : M1 (avS x) = some r) : x = some r := by
 obtain ⟨cs, e1, e2⟩ := Ct e
 unfold avS at e1
 split at e1 <;> cases e1
 rfl
theorem Ax6 {x : Option St} {s' : St} (e : M1 (x.map fun s' => (([] : List Bool), s')) = some s') : x = some s' := by
 cases x with
 | none => cases e
 | some y => exact e
theorem Nf {v : Value} (h1 : v.oneCell' = true) : Ui s g w (.vl (.lf (.c v))) v := ⟨rfl, h1⟩
theorem At6 (h : B0 n B Iq s g a w) {nid : Nat} {o : Oper} {av : AV} {s' : St} (e : M1 (U8 P s nid o) = some (av, s')) : Ou P n B Iq s g a w o av s' := by
 obtain ⟨dst, op, type, pos, after, guard⟩ := o
 have viaConc : ∀ {op : Op}, (∀ cs b, op ≠ .select cs b) → M1 (v0 s (L9 P s ⟨dst, op, type, pos, after, guard⟩)) = some (av, s') → Ou P n B Iq s g a w ⟨dst, op, type, pos, after, guard⟩ av s' := by
  intro op hs e
  obtain ⟨v, e1, e2⟩ := Wx e
  cases e2
  obtain ⟨k1, k2⟩ := Aze h hs e1
  exact Ou.here h k1 (Nf k2)
 cases op <;> simp only [U8] at e <;> first | (cases e; done) | skip
 case move x =>
  obtain ⟨g', k1, k2, k3⟩ := Aqb h (Akd e)
  exact Ou.val (v := a.eval x) (by simp [execOp]) k1 k2 k3
 case assign x =>
  obtain ⟨g', k1, k2, k3⟩ := Aqb h (Akd e)
  exact Ou.val (v := a.eval x) (by simp [execOp]) k1 k2 k3
 case pick c x y =>
  obtain ⟨v, e1, e2⟩ := j7 e
  cases e2
  obtain ⟨t, k1, k2⟩ := Azm h e1
  refine Ou.here h (v := bif t then a.eval x else a.eval y) ?_ k2
  simp only [execOp, k1]
  cases t <;> simp [asBool]
 case alloc T =>
  obtain ⟨l, s1, e1, e2⟩ := Tk e
  cases e2
  obtain ⟨x, w', g', k1, k2, k3, k4, k5⟩ := Awl h e1
  exact Ou.val (v := x) (by simp [execOp, k1]) k2 k3 ⟨k4, k5⟩
 case box T x =>
  split at e
  ·rename_i v hv
   obtain ⟨l, s1, e1, e2⟩ := Tk e
   cases e2
   obtain ⟨x', w', g', k1, k2, k3, k4, k5⟩ := A0k (P := P) h (Wo h hv) e1
   exact Ou.val (v := x') (by simp [execOp, k1]) k2 k3 ⟨k4, k5⟩
  ·cases e
 case build T parts =>
  obtain ⟨v, e1, e2⟩ := Akc e
  cases e2
  obtain ⟨u, k1, k2⟩ := Awm h e1
  exact Ou.here h (v := u) (by simp only [execOp, Sem.run_bind, k1]; rfl) k2
 case buildSlice T len parts =>
  split at e
  ·rename_i hsl
   have hlen : len = 1 := by
    unfold A0q at hsl
    split at hsl
    ·split at hsl
     ·exact Nat.eq_of_beq_eq_true hsl
     ·cases hsl
    ·cases hsl
   subst hlen
   obtain ⟨l, s1, e1, e2⟩ := Tk e
   cases e2
   obtain ⟨u, w', g', k1, k2, k3, k4, k5⟩ := At1 h e1
   exact Ou.val (v := u) (by simp only [execOp, Sem.run_bind, k1]; rfl) k2 k3 ⟨k4, k5⟩
  ·obtain ⟨l, s1, e1, e2⟩ := Tk e
   cases e2
   obtain ⟨u, w', g', k1, k2, k3, k4, k5⟩ := Ah7 h e1
   exact Ou.val (v := u) (by simp only [execOp, Sem.run_bind, k1]; rfl) k2 k3 ⟨k4, k5⟩
 case load T x =>
  split at e
  ·obtain ⟨l, e1, e2⟩ := Akb e
   cases e2
   obtain ⟨u, k1, k2, k3⟩ := Awt h e1
   exact Ou.here h (v := u) (by simp [execOp, k1]) ⟨k2, k3⟩
  ·obtain ⟨v, e1, e2⟩ := Akc e
   cases e2
   obtain ⟨u, k1, k2⟩ := Azf h e1
   exact Ou.here h (v := u) (by simp [execOp, k1]) k2
 case store T x y =>
  split at e
  ·obtain ⟨s1, e1, e2⟩ := Aca e
   cases e2
   obtain ⟨w', g', k1, k2, k3⟩ := Atz h e1
   exact Ou.skip (by simp [execOp, k1]) k2 k3
  ·obtain ⟨s1, e1, e2⟩ := Aca e
   cases e2
   obtain ⟨w', g', k1, k2, k3⟩ := Awp h (Arz e1)
   exact Ou.skip (by simp [execOp, k1]) k2 k3
 case nilCheck x =>
  obtain ⟨v, e1, e2⟩ := j7 e
  cases e2
  obtain ⟨⟨ad, k1⟩, k2⟩ := Aor h e1
  refine Ou.here h (v := a.eval x) ?_ k2
  simp [execOp, k1]
 case binOp op T x y U =>
  have viaV : ∀ {op : BinOp} {v : Value}, ((do eqGuard op T x y (a.eval x) (a.eval y); binOp op T (a.eval x) (a.eval y)) : Sem Value).run P w = .ok v w ∧ v.oneCell' = true → Ou P n B Iq s g a w ⟨dst, .binOp op T x y U, type, pos, after, guard⟩ (.vl (.lf (.c v))) s := by
   intro op v hv
   refine Ou.here h (v := v) ?_ (Nf hv.2)
   simp only [execOp, Sem.run_bind] at hv ⊢
   rw [hv.1]
   rfl
  have hsel : ∀ (op : BinOp) cs b, Op.binOp op T x y U ≠ .select cs b := by intro op cs b q; cases q
  split at e
  ·split at e
   ·obtain ⟨v, e1, e2⟩ := Ae5 e
    cases e2
    exact viaV (Att h e1)
   ·exact viaConc (hsel _) e
  ·obtain ⟨v, e1, e2⟩ := Ae5 e
   cases e2
   exact viaV (Atu h e1)
  ·obtain ⟨v, e1, e2⟩ := Ae5 e
   cases e2
   exact viaV (Atu h e1)
  ·split at e
   ·obtain ⟨v, e1, e2⟩ := Wx e
    cases e2
    exact viaV (Ap6 h e1)
   ·exact viaConc (hsel _) e
  ·split at e
   ·obtain ⟨v, e1, e2⟩ := Wx e
    cases e2
    exact viaV (Ap6 h e1)
   ·exact viaConc (hsel _) e
  ·exact viaConc (hsel _) e
 case unOp op T x => exact viaConc (by intro cs b q; cases q) e
 case convert T U x =>
  split at e
  ·obtain ⟨v, e1, e2⟩ := Wx e
   cases e2
   obtain ⟨k1, k2⟩ := Aon h e1
   exact Ou.here h (v := v) (by simp [execOp, k1]) (Nf k2)
  ·exact viaConc (by intro cs b q; cases q) e
 case makeSlice T x y =>
  obtain ⟨l, s1, e1, e2⟩ := Ab9 e
  cases e2
  obtain ⟨u, w', g', k1, k2, k3, k4, k5⟩ := Ak2 h (Ae2 e1)
  exact Ou.val (v := u) (by simp [execOp, k1]) k2 k3 ⟨k4, k5⟩
 case slice T x lo hi mx =>
  split at e
  ·obtain ⟨v, e1, e2⟩ := Ae5 e
   cases e2
   obtain ⟨k1, k2⟩ := Aop h e1
   exact Ou.here h (v := v) (by simp only [execOp, Sem.run_bind, k1]; rfl) (Nf k2)
  ·split at e
   ·obtain ⟨l, s1, e1, e2⟩ := Ab9 e
    cases e2
    obtain ⟨u, g', k1, k2, k3, k4, k5⟩ := Awn h (Ary e1)
    exact Ou.val (v := u) (by simp only [execOp, Sem.run_bind, Option.map_none, k1]; rfl) k2 k3 ⟨k4, k5⟩
   ·cases e
 case fieldAddr T x f =>
  obtain ⟨l, s1, e1, e2⟩ := Tk e
  cases e2
  obtain ⟨l', e3, e4⟩ := Option.map_eq_some_iff.1 e1
  cases e4
  obtain ⟨u, k1, k2, k3⟩ := Akw h e3
  exact Ou.here h (v := u) (by simp [execOp, k1]) ⟨k2, k3⟩
 case field T x f =>
  obtain ⟨v, e1, e2⟩ := Akc e
  cases e2
  obtain ⟨u, k1, k2⟩ := Awk h e1
  exact Ou.here h (v := u) (by simp [execOp, k1]) k2
 case indexAddr T x y =>
  split at e
  ·obtain ⟨l, e1, e2⟩ := Akb e
   cases e2
   obtain ⟨u, k1, k2, k3⟩ := Atx h e1
   exact Ou.here h (v := u) (by simp [execOp, k1]) ⟨k2, k3⟩
  ·obtain ⟨l, e1, e2⟩ := Akb e
   cases e2
   obtain ⟨u, k1, k2, k3⟩ := Akx h (Ae1 e1)
   exact Ou.here h (v := u) (by simp [execOp, k1]) ⟨k2, k3⟩
 case index T x y =>
  obtain ⟨v, e1, e2⟩ := Ae5 e
  cases e2
  obtain ⟨k1, k2⟩ := Aoo h e1
  exact Ou.here h (v := v) (by simp [execOp, k1]) (Nf k2)
 case extract x i =>
  obtain ⟨v, e1, e2⟩ := j7 e
  cases e2
  obtain ⟨u, k1, k2⟩ := Ar1 (P := P) h e1
  exact Ou.here h (v := u) (by simp [execOp, k1]) k2
 case makeMap T hint =>
  cases hint with
  | some _ => cases e
  | none =>
   obtain ⟨l, s1, e1, e2⟩ := Tk e
   cases e2
   obtain ⟨u, w', g', k1, k2, k3, k4, k5⟩ := Arx h e1
   exact Ou.val (v := u) (by simp [execOp, k1]) k2 k3 ⟨k4, k5⟩
 case mapUpdate T m k v =>
  obtain ⟨s1, e1, e2⟩ := Aca e
  cases e2
  obtain ⟨w', g', k1, k2, k3⟩ := At3 h (Ax6 e1)
  exact Ou.skip (by simp [execOp, k1]) k2 k3
 case lookup T m k ok =>
  cases ok with
  | true => cases e
  | false =>
   obtain ⟨v, e1, e2⟩ := Wx e
   cases e2
   obtain ⟨k1, k2⟩ := Arw h e1
   exact Ou.here h (v := v) (by simp [execOp, k1]) (Nf k2)
 case range T m =>
  obtain ⟨l, s1, e1, e2⟩ := Tk e
  cases e2
  obtain ⟨u, w', g', k1, k2, k3, k4, k5⟩ := Awu h e1
  exact Ou.val (v := u) (by simp [execOp, k1]) k2 k3 ⟨k4, k5⟩
 case entry it =>
  obtain ⟨av, e1, e2⟩ := j7 e
  cases e2
  obtain ⟨v, k1, k2⟩ := Awv (P := P) h e1
  exact Ou.here h (v := v) (by simp [execOp, k1]) k2
 case makeFunc f first captured =>
  obtain ⟨v, e1, e2⟩ := j7 e
  cases e2
  unfold Ale at e1
  split at e1
  ·rename_i f0 hfirst
   obtain ⟨ls, q1, rfl⟩ := Option.map_eq_some_iff.1 e1
   have hf' : first = #[] := by apply Array.toList_inj.1; simpa using hfirst
   subst hf'
   refine Ou.here h (v := .func (.func f0) #[] (captured.map a.eval)) (by simp [execOp, Instr.makeFunc]) ⟨_, rfl, ?_⟩
   rw [Array.toList_map]
   exact Aqc h q1
  ·cases e1
 case call c =>
  obtain ⟨callee, args, argTypes⟩ := c
  simp only at e
  split at e
  ·split at e
   ·rename_i x T ha ht
    have ha' : args = #[x] := by apply Array.toList_inj.1; simpa using ha
    have ht' : argTypes = #[T] := by apply Array.toList_inj.1; simpa using ht
    subst ha' ht'
    split at e
    ·split at e
     ·obtain ⟨v, e1, e2⟩ := Wx e
      cases e2
      obtain ⟨k1, k2⟩ := Azk (ty := type) h e1
      exact Ou.here h (v := v) (by simp [execOp, resolve, invoke, builtin, k1]) (Nf k2)
     ·obtain ⟨v, e1, e2⟩ := Wx e
      cases e2
      obtain ⟨k1, k2⟩ := A0j (ty := type) h e1
      exact Ou.here h (v := v) (by simp [execOp, resolve, invoke, builtin, k1]) (Nf k2)
    ·split at e
     ·obtain ⟨v, e1, e2⟩ := Wx e
      cases e2
      obtain ⟨k1, k2⟩ := At5 (ty := type) h e1
      exact Ou.here h (v := v) (by simp [execOp, resolve, invoke, builtin, k1]) (Nf k2)
     ·exact viaConc (by intro cs b q; cases q) e
   ·cases e
  ·split at e
   ·rename_i x y T U ha ht
    have ha' : args = #[x, y] := by apply Array.toList_inj.1; simpa using ha
    have ht' : argTypes = #[T, U] := by apply Array.toList_inj.1; simpa using ht
    subst ha' ht'
    split at e
    ·obtain ⟨l, s1, e1, e2⟩ := Ab9 e
     cases e2
     obtain ⟨u, w', g', k1, k2, k3, k4, k5⟩ := Ak0 (ty := type) h (Ae3 e1)
     exact Ou.val (v := u) (by simp [execOp, resolve, invoke, builtin, k1]) k2 k3 ⟨k4, k5⟩
    ·split at e
     ·rename_i hUT
      subst hUT
      split at e
      ·obtain ⟨l, s1, e1, e2⟩ := Ab9 e
       cases e2
       obtain ⟨u, w', g', k1, k2, k3, k4, k5⟩ := Art (ty := type) h e1
       exact Ou.val (v := u) (by simp [execOp, resolve, invoke, builtin, k1]) k2 k3 ⟨k4, k5⟩
      ·obtain ⟨l, s1, e1, e2⟩ := Ab9 e
       cases e2
       obtain ⟨u, w', g', k1, k2, k3, k4, k5⟩ := Atq (ty := type) h (Aoq e1)
       exact Ou.val (v := u) (by simp [execOp, resolve, invoke, builtin, k1]) k2 k3 ⟨k4, k5⟩
     ·cases e
   ·cases e
  ·split at e
   ·rename_i x y T U ha ht
    have ha' : args = #[x, y] := by apply Array.toList_inj.1; simpa using ha
    have ht' : argTypes = #[T, U] := by apply Array.toList_inj.1; simpa using ht
    subst ha' ht'
    obtain ⟨s1, e1, e2⟩ := Aca e
    cases e2
    obtain ⟨w', g', k1, k2, k3⟩ := At4 (ty := type) h (Ax6 e1)
    exact Ou.val (v := .tuple #[]) (by simp [execOp, resolve, invoke, builtin, k1]) k2 k3 trivial
   ·cases e
  ·exact viaConc (by intro cs b q; cases q) e
  ·exact viaConc (by intro cs b q; cases q) e
  ·cases e
end
end Go.Proofs.YteaoabdlcefkhaaGreat.R

