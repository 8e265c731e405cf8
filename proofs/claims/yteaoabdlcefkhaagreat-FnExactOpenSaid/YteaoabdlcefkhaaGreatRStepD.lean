/- One operation is the machine's. No condition. -/
import Derived.Test.YteaoabdlcefkhaaGreatRStepC
namespace Go.Proofs.YteaoabdlcefkhaaGreat.R
open Go Go.RowKit
set_option linter.unusedVariables false
set_option linter.unusedSimpArgs false
structure SD where
 sg : Sig
 den : R2 sg.ps → Option (R2 sg.rs × x5 sg.ps)
def I9 (P : Program) (f : FuncId) : Prop := ∃ fn, P.funcs[f]? = some fn ∧ (fn.name == "runtime.NumGoroutine") = false ∧ fn.body.isNone = false
def Anl : Operand → Bool
 | .const (.slice none 0 0) => true
 | _ => false
def Xi (P : Program) (s : St) (nid : Nat) (T : TypeId) (x : Operand) : Option (AV × St) :=
 if Anl x then Arf P s nid T else some (s.op x, s)
def Apg (s : St) (x y : Operand) : Option (Bool × Bool) := match s.conc x, s.conc y with
 | some (.bool p), some (.bool q) => some (p, q)
 | _, _ => none
def Xj (s : St) (c x y : Operand) : Option AV := match s.conc c with
 | some (.bool t) => match Apg s x y with
  | some (p, q) => some (.vl (.lf (.c (.bool (bif t then p else q)))))
  | none => some (bif t then s.op x else s.op y)
 | _ => none
def Adf (s : St) (x : Operand) (i : Nat) : Option AV := match s.op x with
 | .tp vs => match vs[i]? with
  | some v => some (.vl v)
  | none => none
 | _ => none
def l3 (s : St) (x : Operand) : Option AV := match s.leaf x with
 | some (.ptr id off) => match s.res id with
  | .box _ _ => some (.vl (.lf (.ptr id off)))
  | _ => none
 | some (.ep t xs i off) => some (.vl (.lf (.ep t xs i off)))
 | some (.rp id i off) => match s.res id with
  | .row _ _ _ => some (.vl (.lf (.rp id i off)))
  | _ => none
 | _ => none
abbrev Cd := Option (List Bool × AV × St)
def lfC (s : St) (x : Option (List Bool × Lf)) : Cd := match x with
 | some (cs, l) => some (cs, .vl (.lf l), s)
 | none => none
def lfS (x : Option (List Bool × Lf × St)) : Cd := match x with
 | some (cs, l, s) => some (cs, .vl (.lf l), s)
 | none => none
def lf0 (x : Option (Lf × St)) : Cd := match x with
 | some (l, s) => some ([], .vl (.lf l), s)
 | none => none
def vC (s : St) (x : Option (List Bool × Value)) : Cd := match x with
 | some (cs, v) => some (cs, .vl (.lf (.c v)), s)
 | none => none
def v0 (s : St) (x : Option Value) : Cd := match x with
 | some v => some ([], .vl (.lf (.c v)), s)
 | none => none
def vl0 (s : St) (x : Option Vl) : Cd := match x with
 | some v => some ([], .vl v, s)
 | none => none
def av0 (s : St) (x : Option AV) : Cd := match x with
 | some v => some ([], v, s)
 | none => none
def avS (x : Option (AV × St)) : Cd := match x with
 | some (v, s) => some ([], v, s)
 | none => none
def stC (x : Option (List Bool × St)) : Cd := match x with
 | some (cs, s) => some (cs, .dead, s)
 | none => none
def A1k (s : St) (x : Operand) : Bool := match s.value x with
 | some (.ag _) => true
 | _ => false
def A15 (s : St) (x : Operand) : Bool := match s.conc x with
 | some (.string _) => true
 | _ => false
def Avs (P : Program) (T : TypeId) : Bool := match P.underlying T with
 | some (.slice _) => true
 | _ => false
def Ayj (P : Program) (T : TypeId) : Bool := match P.underlying T with
 | some .string => true
 | _ => false
def Ah4 (s : St) : List Operand → Option (List Lf)
 | [] => some []
 | x :: r => (s.leaf x).bind fun l => (Ah4 s r).bind fun ls => some (l :: ls)
def Ajb (s : St) (f : Fn) (first captured : List Operand) : Option AV := match f, first with
 | .func f, [] => (Ah4 s captured).map (AV.fn f)
 | _, _ => none
def Tu (P : Program) (s : St) (nid : Nat) (o : Oper) : Cd := match o.op with
 | .move x => avS (Xi P s nid o.type x)
 | .assign x => avS (Xi P s nid o.type x)
 | .pick c x y => av0 s (Xj s c x y)
 | .alloc T => lf0 (Aow P s nid T)
 | .box T x => match s.value x with
  | some v => lf0 (Ax8 s nid T v)
  | none => none
 | .build T parts => vl0 s (Aox P s T parts)
 | .buildSlice T len parts => if Ayh P T len then lf0 (Ai5 P s nid T parts.toList) else lf0 (Vc P s nid T len parts)
 | .load T x => if Avo s x then lfC s (Ao7 P s T x) else vl0 s (Aip P s T x)
 | .store T x y => if Avo s x then stC (Ai4 P s T x y) else stC (Aja P s T x y)
 | .nilCheck x => av0 s (l3 s x)
 | .binOp op T x y U => match op with
  | .add => if A15 s x then vC s (Ai3 s .add x y) else v0 s (K9 P s o)
  | .quo => vC s (Avm s .quo x y)
  | .rem => vC s (Avm s .rem x y)
  | .eql => if A1k s x then v0 s (Ao6 P s .eql T x y) else v0 s (K9 P s o)
  | .neq => if A1k s x then v0 s (Ao6 P s .neq T x y) else v0 s (K9 P s o)
  | _ => v0 s (K9 P s o)
 | .unOp _ _ _ => v0 s (K9 P s o)
 | .convert T U x => if Avs P T then v0 s (j8 P s T U x) else v0 s (K9 P s o)
 | .makeSlice T x y => lfS (Vk P s nid T x y)
 | .slice T x lo hi mx => if Ayj P T then vC s (k9 P s T x lo hi mx) else (match mx with
  | none => lfS (Ai9 P s T x lo hi)
  | some _ => none)
 | .fieldAddr T x f => lf0 ((Xa P s T x f).map fun l => (l, s))
 | .field T x f => vl0 s (Aov P s T x f)
 | .indexAddr T x y => if Zc s x then lfC s (Tp P s T x y) else lfC s (J9 P s T x y)
 | .index T x y => vC s (k8 P s T x y)
 | .extract x i => av0 s (Adf s x i)
 | .makeMap T h => (match h with
  | none => lf0 (Ac9 P s nid T)
  | some _ => none)
 | .mapUpdate T m k v => stC ((Ai7 P s T m k v).map fun s' => ([], s'))
 | .lookup T m k ok => if ok then none else v0 s (Ada P s T m k)
 | .range T m => lf0 (Apa P s nid T m)
 | .entry it => av0 s (Apb s it)
 | .makeFunc f first captured => av0 s (Ajb s f first.toList captured.toList)
 | .call c => match c.callee with
  | .builtin .len => (match c.args.toList, c.argTypes.toList with
   | [x], [T] => if Avs P T then (if Zc s x then v0 s (Ac7 P s T x) else v0 s (Anb P s T x)) else if A13 P T then v0 s (Tt P s T x) else v0 s (K9 P s o)
   | _, _ => none)
  | .builtin .append => (match c.args.toList, c.argTypes.toList with
   | [x, y], [T, U] => if Ayj P U then lfS (Vm P s nid T U x y) else if U = T then (if Zc s x then lfS (Ac8 P s nid T x y) else lfS (Adb P s nid T x y)) else none
   | _, _ => none)
  | .builtin .delete => (match c.args.toList, c.argTypes.toList with
   | [x, y], [T, U] => stC ((Ai8 P s T U x y).map fun s' => ([], s'))
   | _, _ => none)
  | .builtin .min => v0 s (K9 P s o)
  | .builtin .max => v0 s (K9 P s o)
  | _ => none
 | _ => none
section
variable {P : Program} {n B : Nat} {Iq : List Nat} {s : St} {g : Gh} {a : Act} {w : World}
def Nf (P : Program) (n B : Nat) (Iq : List Nat) (s : St) (g : Gh) (a : Act) (w : World) (o : Oper) (av : AV) (s' : St) : Prop :=
 ∀ (K : Act → World → Prop) (Q : Exit → Act → World → Prop), (∀ v g' w', Go B Iq s g w s' g' w' → Bw n B Iq s' g' a w' → S4 s' g' w' av v → K (a.put o.dst v) w') → o.wp P a w K Q
theorem Nf.val {o : Oper} {av : AV} {s' : St} {v : Value} {w' : World} {g' : Gh} (hr : (execOp a.eval o).run P w = .ok (.value v) w') (h1 : Go B Iq s g w s' g' w') (h2 : Bw n B Iq s' g' a w') (h3 : S4 s' g' w' av v) : Nf P n B Iq s g a w o av s' := by
 intro K Q hK
 unfold Oper.wp
 rw [hr, Oper.upon_value]
 exact hK v g' w' h1 h2 h3
theorem Nf.skip {o : Oper} {s' : St} {w' : World} {g' : Gh} (hr : (execOp a.eval o).run P w = .ok .skip w') (h1 : Go B Iq s g w s' g' w') (h2 : Bw n B Iq s' g' a w') : Nf P n B Iq s g a w o .dead s' := by
 intro K Q hK
 unfold Oper.wp
 rw [hr, Oper.upon_skip]
 exact hK _ g' w' h1 h2 trivial
theorem Nf.here {o : Oper} {av : AV} {v : Value} (h : Bw n B Iq s g a w) (hr : (execOp a.eval o).run P w = .ok (.value v) w) (h3 : S4 s g w av v) : Nf P n B Iq s g a w o av s :=
 Nf.val hr (Go.refl B Iq s g w) h h3
theorem Anm (h : Bw n B Iq s g a w) {nid : Nat} {T : TypeId} {x : Operand} {av : AV} {s' : St} (e : Xi P s nid T x = some (av, s')) :
  ∃ g', Go B Iq s g w s' g' w ∧ Bw n B Iq s' g' a w ∧ S4 s' g' w av (a.eval x) := by
 unfold Xi at e
 split at e
 ·rename_i hn
  unfold Anl at hn
  split at hn
  ·exact Arh h e
  ·cases hn
 ·cases e
  exact ⟨g, Go.refl B Iq s g w, h, At1 h x⟩
theorem Aw9 (h : Bw n B Iq s g a w) {c x y : Operand} {av : AV} (e : Xj s c x y = some av) :
  ∃ t : Bool, a.eval c = .bool t ∧ S4 s g w av (bif t then a.eval x else a.eval y) := by
 unfold Xj at e
 split at e
 ·rename_i t hc
  refine ⟨t, (Dp h hc).1, ?_⟩
  split at e
  ·rename_i p q hb
   cases e
   unfold Apg at hb
   split at hb <;> cases hb
   rename_i hx hy
   rw [(Dp h hx).1, (Dp h hy).1]
   cases t
   ·exact ⟨rfl, rfl⟩
   ·exact ⟨rfl, rfl⟩
  ·cases e
   cases t
   ·exact At1 h y
   ·exact At1 h x
 ·cases e
theorem Aph (h : Bw n B Iq s g a w) {x : Operand} {i : Nat} {av : AV} (e : Adf s x i = some av) :
  ∃ v, (Instr.extract (a.eval x) i).run P w = .ok v w ∧ S4 s g w av v := by
 unfold Adf at e
 split at e
 ·rename_i vs hx
  split at e <;> cases e
  rename_i v hv
  have k := At1 h x
  rw [hx] at k
  obtain ⟨us, hu, hsz, hk⟩ := k
  obtain ⟨u, e1, e2⟩ := hk i v hv
  refine ⟨u, ?_, e2⟩
  rw [hu]
  simp [Instr.extract, e1]
 ·cases e
theorem Amc (h : Bw n B Iq s g a w) {x : Operand} {av : AV} (e : l3 s x = some av) :
  (∃ ad, a.eval x = .pointer (some ad)) ∧ S4 s g w av (a.eval x) := by
 unfold l3 at e
 split at e
 ·rename_i id off hx
  obtain ⟨hl, h1⟩ := Cz h hx
  split at e <;> cases e
  rename_i T ls hr
  refine ⟨?_, hl, h1⟩
  simp only [De, hr] at hl
  obtain ⟨b, _, hu⟩ := hl
  exact ⟨_, hu⟩
 ·rename_i t xs i off hx
  obtain ⟨hl, h1⟩ := Cz h hx
  cases e
  refine ⟨?_, hl, h1⟩
  obtain ⟨ad, cs, hu, _⟩ := hl
  exact ⟨_, hu⟩
 ·rename_i id i off hx
  obtain ⟨hl, h1⟩ := Cz h hx
  split at e <;> cases e
  rename_i T t xs hr
  refine ⟨?_, hl, h1⟩
  simp only [De, hr] at hl
  obtain ⟨_, b, _, hu⟩ := hl
  exact ⟨_, hu⟩
 ·cases e
theorem Ann (h : Bw n B Iq s g a w) : ∀ {xs : List Operand} {ls : List Lf}, Ah4 s xs = some ls → Gp s g w ls (xs.map a.eval)
 | [], ls, e => by cases e; trivial
 | x :: r, ls, e => by
  simp only [Ah4] at e
  obtain ⟨l, e1, e⟩ := Option.bind_eq_some_iff.1 e
  obtain ⟨ls', e2, e⟩ := Option.bind_eq_some_iff.1 e
  cases e
  exact ⟨Cz h e1, Ann h e2⟩
theorem Ah5 {x : Option (List Bool × Lf)} {r : AV × St} (e : Lz (lfC s x) = some r) : ∃ l, Lz x = some l ∧ r = (.vl (.lf l), s) := by
 obtain ⟨cs, e1, e2⟩ := Cn e
 unfold lfC at e1
 split at e1 <;> cases e1
 exact ⟨_, by simp [Lz, e2], rfl⟩
theorem z1 {x : Option (List Bool × Lf × St)} {r : AV × St} (e : Lz (lfS x) = some r) : ∃ l s', Lz x = some (l, s') ∧ r = (.vl (.lf l), s') := by
 obtain ⟨cs, e1, e2⟩ := Cn e
 unfold lfS at e1
 split at e1 <;> cases e1
 exact ⟨_, _, by simp [Lz, e2], rfl⟩
theorem Ah6 {x : Option (List Bool × St)} {r : AV × St} (e : Lz (stC x) = some r) : ∃ s', Lz x = some s' ∧ r = (.dead, s') := by
 obtain ⟨cs, e1, e2⟩ := Cn e
 unfold stC at e1
 split at e1 <;> cases e1
 exact ⟨_, by simp [Lz, e2], rfl⟩
theorem Adg {x : Option (List Bool × Value)} {r : AV × St} (e : Lz (vC s x) = some r) : ∃ v, Lz x = some v ∧ r = (.vl (.lf (.c v)), s) := by
 obtain ⟨cs, e1, e2⟩ := Cn e
 unfold vC at e1
 split at e1 <;> cases e1
 exact ⟨_, by simp [Lz, e2], rfl⟩
theorem R3 {x : Option (Lf × St)} {r : AV × St} (e : Lz (lf0 x) = some r) : ∃ l s', x = some (l, s') ∧ r = (.vl (.lf l), s') := by
 obtain ⟨cs, e1, e2⟩ := Cn e
 unfold lf0 at e1
 split at e1 <;> cases e1
 exact ⟨_, _, rfl, rfl⟩
theorem Vn {x : Option Value} {r : AV × St} (e : Lz (v0 s x) = some r) : ∃ v, x = some v ∧ r = (.vl (.lf (.c v)), s) := by
 obtain ⟨cs, e1, e2⟩ := Cn e
 unfold v0 at e1
 split at e1 <;> cases e1
 exact ⟨_, rfl, rfl⟩
theorem Ah7 {x : Option Vl} {r : AV × St} (e : Lz (vl0 s x) = some r) : ∃ v, x = some v ∧ r = (.vl v, s) := by
 obtain ⟨cs, e1, e2⟩ := Cn e
 unfold vl0 at e1
 split at e1 <;> cases e1
 exact ⟨_, rfl, rfl⟩
theorem Ze {x : Option AV} {r : AV × St} (e : Lz (av0 s x) = some r) : ∃ v, x = some v ∧ r = (v, s) := by
 obtain ⟨cs, e1, e2⟩ := Cn e
 unfold av0 at e1
 split at e1 <;> cases e1
 exact ⟨_, rfl, rfl⟩
theorem Ah8 {x : Option (AV × St)} {r : AV × St} (e : Lz (avS x) = some r) : x = some r := by
 obtain ⟨cs, e1, e2⟩ := Cn e
 unfold avS at e1
 split at e1 <;> cases e1
 rfl
theorem Avt {x : Option St} {s' : St} (e : Lz (x.map fun s' => (([] : List Bool), s')) = some s') : x = some s' := by
 cases x with
 | none => cases e
 | some y => exact e
theorem L4 {v : Value} (h1 : v.oneCell' = true) : S4 s g w (.vl (.lf (.c v))) v := ⟨rfl, h1⟩
theorem Arp (h : Bw n B Iq s g a w) {nid : Nat} {o : Oper} {av : AV} {s' : St} (e : Lz (Tu P s nid o) = some (av, s')) : Nf P n B Iq s g a w o av s' := by
 obtain ⟨dst, op, type, pos, after, guard⟩ := o
 have viaConc : ∀ {op : Op}, (∀ cs b, op ≠ .select cs b) → Lz (v0 s (K9 P s ⟨dst, op, type, pos, after, guard⟩)) = some (av, s') → Nf P n B Iq s g a w ⟨dst, op, type, pos, after, guard⟩ av s' := by
  intro op hs e
  obtain ⟨v, e1, e2⟩ := Vn e
  cases e2
  obtain ⟨k1, k2⟩ := Aw1 h hs e1
  exact Nf.here h k1 (L4 k2)
 cases op <;> simp only [Tu] at e <;> first | (cases e; done) | skip
 case move x =>
  obtain ⟨g', k1, k2, k3⟩ := Anm h (Ah8 e)
  exact Nf.val (v := a.eval x) (by simp [execOp]) k1 k2 k3
 case assign x =>
  obtain ⟨g', k1, k2, k3⟩ := Anm h (Ah8 e)
  exact Nf.val (v := a.eval x) (by simp [execOp]) k1 k2 k3
 case pick c x y =>
  obtain ⟨v, e1, e2⟩ := Ze e
  cases e2
  obtain ⟨t, k1, k2⟩ := Aw9 h e1
  refine Nf.here h (v := bif t then a.eval x else a.eval y) ?_ k2
  simp only [execOp, k1]
  cases t <;> simp [asBool]
 case alloc T =>
  obtain ⟨l, s1, e1, e2⟩ := R3 e
  cases e2
  obtain ⟨x, w', g', k1, k2, k3, k4, k5⟩ := At3 h e1
  exact Nf.val (v := x) (by simp [execOp, k1]) k2 k3 ⟨k4, k5⟩
 case box T x =>
  split at e
  ·rename_i v hv
   obtain ⟨l, s1, e1, e2⟩ := R3 e
   cases e2
   obtain ⟨x', w', g', k1, k2, k3, k4, k5⟩ := Ayb (P := P) h (Ve h hv) e1
   exact Nf.val (v := x') (by simp [execOp, k1]) k2 k3 ⟨k4, k5⟩
  ·cases e
 case build T parts =>
  obtain ⟨v, e1, e2⟩ := Ah7 e
  cases e2
  obtain ⟨u, k1, k2⟩ := At4 h e1
  exact Nf.here h (v := u) (by simp only [execOp, Sem.run_bind, k1]; rfl) k2
 case buildSlice T len parts =>
  split at e
  ·rename_i hsl
   have hlen : len = 1 := by
    unfold Ayh at hsl
    split at hsl
    ·split at hsl
     ·exact Nat.eq_of_beq_eq_true hsl
     ·cases hsl
    ·cases hsl
   subst hlen
   obtain ⟨l, s1, e1, e2⟩ := R3 e
   cases e2
   obtain ⟨u, w', g', k1, k2, k3, k4, k5⟩ := Ark h e1
   exact Nf.val (v := u) (by simp only [execOp, Sem.run_bind, k1]; rfl) k2 k3 ⟨k4, k5⟩
  ·obtain ⟨l, s1, e1, e2⟩ := R3 e
   cases e2
   obtain ⟨u, w', g', k1, k2, k3, k4, k5⟩ := Agm h e1
   exact Nf.val (v := u) (by simp only [execOp, Sem.run_bind, k1]; rfl) k2 k3 ⟨k4, k5⟩
 case load T x =>
  split at e
  ·obtain ⟨l, e1, e2⟩ := Ah5 e
   cases e2
   obtain ⟨u, k1, k2, k3⟩ := Aub h e1
   exact Nf.here h (v := u) (by simp [execOp, k1]) ⟨k2, k3⟩
  ·obtain ⟨v, e1, e2⟩ := Ah7 e
   cases e2
   obtain ⟨u, k1, k2⟩ := Aw2 h e1
   exact Nf.here h (v := u) (by simp [execOp, k1]) k2
 case store T x y =>
  split at e
  ·obtain ⟨s1, e1, e2⟩ := Ah6 e
   cases e2
   obtain ⟨w', g', k1, k2, k3⟩ := Ari h e1
   exact Nf.skip (by simp [execOp, k1]) k2 k3
  ·obtain ⟨s1, e1, e2⟩ := Ah6 e
   cases e2
   obtain ⟨w', g', k1, k2, k3⟩ := At7 h (Apf e1)
   exact Nf.skip (by simp [execOp, k1]) k2 k3
 case nilCheck x =>
  obtain ⟨v, e1, e2⟩ := Ze e
  cases e2
  obtain ⟨⟨ad, k1⟩, k2⟩ := Amc h e1
  refine Nf.here h (v := a.eval x) ?_ k2
  simp [execOp, k1]
 case binOp op T x y U =>
  have viaV : ∀ {op : BinOp} {v : Value}, ((do eqGuard op T x y (a.eval x) (a.eval y); binOp op T (a.eval x) (a.eval y)) : Sem Value).run P w = .ok v w ∧ v.oneCell' = true → Nf P n B Iq s g a w ⟨dst, .binOp op T x y U, type, pos, after, guard⟩ (.vl (.lf (.c v))) s := by
   intro op v hv
   refine Nf.here h (v := v) ?_ (L4 hv.2)
   simp only [execOp, Sem.run_bind] at hv ⊢
   rw [hv.1]
   rfl
  have hsel : ∀ (op : BinOp) cs b, Op.binOp op T x y U ≠ .select cs b := by intro op cs b q; cases q
  split at e
  ·split at e
   ·obtain ⟨v, e1, e2⟩ := Adg e
    cases e2
    exact viaV (Arc h e1)
   ·exact viaConc (hsel _) e
  ·obtain ⟨v, e1, e2⟩ := Adg e
   cases e2
   exact viaV (Ard h e1)
  ·obtain ⟨v, e1, e2⟩ := Adg e
   cases e2
   exact viaV (Ard h e1)
  ·split at e
   ·obtain ⟨v, e1, e2⟩ := Vn e
    cases e2
    exact viaV (Anh h e1)
   ·exact viaConc (hsel _) e
  ·split at e
   ·obtain ⟨v, e1, e2⟩ := Vn e
    cases e2
    exact viaV (Anh h e1)
   ·exact viaConc (hsel _) e
  ·exact viaConc (hsel _) e
 case unOp op T x => exact viaConc (by intro cs b q; cases q) e
 case convert T U x =>
  split at e
  ·obtain ⟨v, e1, e2⟩ := Vn e
   cases e2
   obtain ⟨k1, k2⟩ := Al8 h e1
   exact Nf.here h (v := v) (by simp [execOp, k1]) (L4 k2)
  ·exact viaConc (by intro cs b q; cases q) e
 case makeSlice T x y =>
  obtain ⟨l, s1, e1, e2⟩ := z1 e
  cases e2
  obtain ⟨u, w', g', k1, k2, k3, k4, k5⟩ := Aix h (Add e1)
  exact Nf.val (v := u) (by simp [execOp, k1]) k2 k3 ⟨k4, k5⟩
 case slice T x lo hi mx =>
  split at e
  ·obtain ⟨v, e1, e2⟩ := Adg e
   cases e2
   obtain ⟨k1, k2⟩ := Ama h e1
   exact Nf.here h (v := v) (by simp only [execOp, Sem.run_bind, k1]; rfl) (L4 k2)
  ·split at e
   ·obtain ⟨l, s1, e1, e2⟩ := z1 e
    cases e2
    obtain ⟨u, g', k1, k2, k3, k4, k5⟩ := At5 h (Ape e1)
    exact Nf.val (v := u) (by simp only [execOp, Sem.run_bind, Option.map_none, k1]; rfl) k2 k3 ⟨k4, k5⟩
   ·cases e
 case fieldAddr T x f =>
  obtain ⟨l, s1, e1, e2⟩ := R3 e
  cases e2
  obtain ⟨l', e3, e4⟩ := Option.map_eq_some_iff.1 e1
  cases e4
  obtain ⟨u, k1, k2, k3⟩ := Air h e3
  exact Nf.here h (v := u) (by simp [execOp, k1]) ⟨k2, k3⟩
 case field T x f =>
  obtain ⟨v, e1, e2⟩ := Ah7 e
  cases e2
  obtain ⟨u, k1, k2⟩ := At2 h e1
  exact Nf.here h (v := u) (by simp [execOp, k1]) k2
 case indexAddr T x y =>
  split at e
  ·obtain ⟨l, e1, e2⟩ := Ah5 e
   cases e2
   obtain ⟨u, k1, k2, k3⟩ := Arg h e1
   exact Nf.here h (v := u) (by simp [execOp, k1]) ⟨k2, k3⟩
  ·obtain ⟨l, e1, e2⟩ := Ah5 e
   cases e2
   obtain ⟨u, k1, k2, k3⟩ := Ais h (Adc e1)
   exact Nf.here h (v := u) (by simp [execOp, k1]) ⟨k2, k3⟩
 case index T x y =>
  obtain ⟨v, e1, e2⟩ := Adg e
  cases e2
  obtain ⟨k1, k2⟩ := Al9 h e1
  exact Nf.here h (v := v) (by simp [execOp, k1]) (L4 k2)
 case extract x i =>
  obtain ⟨v, e1, e2⟩ := Ze e
  cases e2
  obtain ⟨u, k1, k2⟩ := Aph (P := P) h e1
  exact Nf.here h (v := u) (by simp [execOp, k1]) k2
 case makeMap T hint =>
  cases hint with
  | some _ => cases e
  | none =>
   obtain ⟨l, s1, e1, e2⟩ := R3 e
   cases e2
   obtain ⟨u, w', g', k1, k2, k3, k4, k5⟩ := Apd h e1
   exact Nf.val (v := u) (by simp [execOp, k1]) k2 k3 ⟨k4, k5⟩
 case mapUpdate T m k v =>
  obtain ⟨s1, e1, e2⟩ := Ah6 e
  cases e2
  obtain ⟨w', g', k1, k2, k3⟩ := Arm h (Avt e1)
  exact Nf.skip (by simp [execOp, k1]) k2 k3
 case lookup T m k ok =>
  cases ok with
  | true => cases e
  | false =>
   obtain ⟨v, e1, e2⟩ := Vn e
   cases e2
   obtain ⟨k1, k2⟩ := Apc h e1
   exact Nf.here h (v := v) (by simp [execOp, k1]) (L4 k2)
 case range T m =>
  obtain ⟨l, s1, e1, e2⟩ := R3 e
  cases e2
  obtain ⟨u, w', g', k1, k2, k3, k4, k5⟩ := Auc h e1
  exact Nf.val (v := u) (by simp [execOp, k1]) k2 k3 ⟨k4, k5⟩
 case entry it =>
  obtain ⟨av, e1, e2⟩ := Ze e
  cases e2
  obtain ⟨v, k1, k2⟩ := Aud (P := P) h e1
  exact Nf.here h (v := v) (by simp [execOp, k1]) k2
 case makeFunc f first captured =>
  obtain ⟨v, e1, e2⟩ := Ze e
  cases e2
  unfold Ajb at e1
  split at e1
  ·rename_i f0 hfirst
   obtain ⟨ls, q1, rfl⟩ := Option.map_eq_some_iff.1 e1
   have hf' : first = #[] := by apply Array.toList_inj.1; simpa using hfirst
   subst hf'
   refine Nf.here h (v := .func (.func f0) #[] (captured.map a.eval)) (by simp [execOp, Instr.makeFunc]) ⟨_, rfl, ?_⟩
   rw [Array.toList_map]
   exact Ann h q1
  ·cases e1
 case call c =>
  obtain ⟨callee, args, argTypes⟩ := c
  simp only at e
  split at e
  ·split at e
   ·rename_i x T ha ht
    have ha' : args = #[x] := by apply Array.toList_inj.1; simpa using ha
    have ht' : argTypes = #[T] := by apply Array.toList_inj.1; simpa using ht
    subst ha' ht'
    split at e
    ·split at e
     ·obtain ⟨v, e1, e2⟩ := Vn e
      cases e2
      obtain ⟨k1, k2⟩ := Aw7 (ty := type) h e1
      exact Nf.here h (v := v) (by simp [execOp, resolve, invoke, builtin, k1]) (L4 k2)
     ·obtain ⟨v, e1, e2⟩ := Vn e
      cases e2
      obtain ⟨k1, k2⟩ := Aya (ty := type) h e1
      exact Nf.here h (v := v) (by simp [execOp, resolve, invoke, builtin, k1]) (L4 k2)
    ·split at e
     ·obtain ⟨v, e1, e2⟩ := Vn e
      cases e2
      obtain ⟨k1, k2⟩ := Aro (ty := type) h e1
      exact Nf.here h (v := v) (by simp [execOp, resolve, invoke, builtin, k1]) (L4 k2)
     ·exact viaConc (by intro cs b q; cases q) e
   ·cases e
  ·split at e
   ·rename_i x y T U ha ht
    have ha' : args = #[x, y] := by apply Array.toList_inj.1; simpa using ha
    have ht' : argTypes = #[T, U] := by apply Array.toList_inj.1; simpa using ht
    subst ha' ht'
    split at e
    ·obtain ⟨l, s1, e1, e2⟩ := z1 e
     cases e2
     obtain ⟨u, w', g', k1, k2, k3, k4, k5⟩ := Aiv (ty := type) h (Ade e1)
     exact Nf.val (v := u) (by simp [execOp, resolve, invoke, builtin, k1]) k2 k3 ⟨k4, k5⟩
    ·split at e
     ·rename_i hUT
      subst hUT
      split at e
      ·obtain ⟨l, s1, e1, e2⟩ := z1 e
       cases e2
       obtain ⟨u, w', g', k1, k2, k3, k4, k5⟩ := Ao9 (ty := type) h e1
       exact Nf.val (v := u) (by simp [execOp, resolve, invoke, builtin, k1]) k2 k3 ⟨k4, k5⟩
      ·obtain ⟨l, s1, e1, e2⟩ := z1 e
       cases e2
       obtain ⟨u, w', g', k1, k2, k3, k4, k5⟩ := Aq9 (ty := type) h (Amb e1)
       exact Nf.val (v := u) (by simp [execOp, resolve, invoke, builtin, k1]) k2 k3 ⟨k4, k5⟩
     ·cases e
   ·cases e
  ·split at e
   ·rename_i x y T U ha ht
    have ha' : args = #[x, y] := by apply Array.toList_inj.1; simpa using ha
    have ht' : argTypes = #[T, U] := by apply Array.toList_inj.1; simpa using ht
    subst ha' ht'
    obtain ⟨s1, e1, e2⟩ := Ah6 e
    cases e2
    obtain ⟨w', g', k1, k2, k3⟩ := Arn (ty := type) h (Avt e1)
    exact Nf.val (v := .tuple #[]) (by simp [execOp, resolve, invoke, builtin, k1]) k2 k3 trivial
   ·cases e
  ·exact viaConc (by intro cs b q; cases q) e
  ·exact viaConc (by intro cs b q; cases q) e
  ·cases e
end
end Go.Proofs.YteaoabdlcefkhaaGreat.R

