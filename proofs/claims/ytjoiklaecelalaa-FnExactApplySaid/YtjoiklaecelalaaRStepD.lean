/- One operation is the machine's. No condition. -/
import Derived.Test.YtjoiklaecelalaaRStepC
namespace Go.Proofs.Ytjoiklaecelalaa.R
open Go Go.RowKit
set_option linter.unusedVariables false
set_option linter.unusedSimpArgs false

/-- A function that is called: how, and what it comes to. -/
structure SD where
  sg : Sig
  den : MsD sg.ps → Option (MsD sg.rs × BxD sg.ps)
def Callable (P : Program) (f : FuncId) : Prop := ∃ fn, P.funcs[f]? = some fn ∧ (fn.name == "runtime.NumGoroutine") = false ∧ fn.body.isNone = false

def isNil : Operand → Bool
  | .const (.slice none 0 0) => true
  | _ => false
def opMove (P : Program) (s : St) (nid : Nat) (T : TypeId) (x : Operand) : Option (AV × St) :=
  if isNil x then opNil P s nid T else some (s.op x, s)
def boolsOf (s : St) (x y : Operand) : Option (Bool × Bool) := match s.conc x, s.conc y with
  | some (.bool p), some (.bool q) => some (p, q)
  | _, _ => none
def opPick (s : St) (c x y : Operand) : Option AV := match s.conc c with
  | some (.bool t) => match boolsOf s x y with
    | some (p, q) => some (.vl (.lf (.c (.bool (bif t then p else q)))))
    | none => some (bif t then s.op x else s.op y)
  | _ => none
def opExtract (s : St) (x : Operand) (i : Nat) : Option AV := match s.op x with
  | .tp vs => match vs[i]? with
    | some v => some (.vl v)
    | none => none
  | _ => none
/-- An address that is there. -/
def opNilCheck (s : St) (x : Operand) : Option AV := match s.leaf x with
  | some (.ptr id off) => match s.res id with
    | .box _ _ => some (.vl (.lf (.ptr id off)))
    | _ => none
  | some (.ep t xs i off) => some (.vl (.lf (.ep t xs i off)))
  | some (.rp id i off) => match s.res id with
    | .row _ _ _ => some (.vl (.lf (.rp id i off)))
    | _ => none
  | _ => none
abbrev Cd := Option (List Bool × AV × St)
def lfC (s : St) (x : Option (List Bool × Lf)) : Cd := match x with
  | some (cs, l) => some (cs, .vl (.lf l), s)
  | none => none
def lfS (x : Option (List Bool × Lf × St)) : Cd := match x with
  | some (cs, l, s) => some (cs, .vl (.lf l), s)
  | none => none
def lf0 (x : Option (Lf × St)) : Cd := match x with
  | some (l, s) => some ([], .vl (.lf l), s)
  | none => none
def vC (s : St) (x : Option (List Bool × Value)) : Cd := match x with
  | some (cs, v) => some (cs, .vl (.lf (.c v)), s)
  | none => none
def v0 (s : St) (x : Option Value) : Cd := match x with
  | some v => some ([], .vl (.lf (.c v)), s)
  | none => none
def vl0 (s : St) (x : Option Vl) : Cd := match x with
  | some v => some ([], .vl v, s)
  | none => none
def av0 (s : St) (x : Option AV) : Cd := match x with
  | some v => some ([], v, s)
  | none => none
def avS (x : Option (AV × St)) : Cd := match x with
  | some (v, s) => some ([], v, s)
  | none => none
def stC (x : Option (List Bool × St)) : Cd := match x with
  | some (cs, s) => some (cs, .dead, s)
  | none => none
def isAgO (s : St) (x : Operand) : Bool := match s.value x with
  | some (.ag _) => true
  | _ => false
def isStrO (s : St) (x : Operand) : Bool := match s.conc x with
  | some (.string _) => true
  | _ => false
def isSlT (P : Program) (T : TypeId) : Bool := match P.underlying T with
  | some (.slice _) => true
  | _ => false
def isStT (P : Program) (T : TypeId) : Bool := match P.underlying T with
  | some .string => true
  | _ => false
/-- Leaves of operands. -/
def leavesL (s : St) : List Operand → Option (List Lf)
  | [] => some []
  | x :: r => (s.leaf x).bind fun l => (leavesL s r).bind fun ls => some (l :: ls)
def opMakeFunc (s : St) (f : Fn) (first captured : List Operand) : Option AV := match f, first with
  | .func f, [] => (leavesL s captured).map (AV.fn f)
  | _, _ => none
/-- An operation that calls no function. -/
def stepC (P : Program) (s : St) (nid : Nat) (o : Oper) : Cd := match o.op with
  | .move x => avS (opMove P s nid o.type x)
  | .assign x => avS (opMove P s nid o.type x)
  | .pick c x y => av0 s (opPick s c x y)
  | .alloc T => lf0 (opAlloc P s nid T)
  | .box T x => match s.value x with
    | some v => lf0 (opBox s nid T v)
    | none => none
  | .build T parts => vl0 s (opBuild P s T parts)
  | .buildSlice T len parts => if isSlSl P T len then lf0 (opBuildL P s nid T parts.toList) else lf0 (opBuildSlice P s nid T len parts)
  | .load T x => if isLastP s x then lfC s (opLoadL P s T x) else vl0 s (opLoad P s T x)
  | .store T x y => if isLastP s x then stC (opStoreL P s T x y) else stC (opStoreC P s T x y)
  | .nilCheck x => av0 s (opNilCheck s x)
  | .binOp op T x y U => match op with
    | .add => if isStrO s x then vC s (opStrAdd s .add x y) else v0 s (opConc P s o)
    | .quo => vC s (opDiv s .quo x y)
    | .rem => vC s (opDiv s .rem x y)
    | .eql => if isAgO s x then v0 s (opEqAg P s .eql T x y) else v0 s (opConc P s o)
    | .neq => if isAgO s x then v0 s (opEqAg P s .neq T x y) else v0 s (opConc P s o)
    | _ => v0 s (opConc P s o)
  | .unOp _ _ _ => v0 s (opConc P s o)
  | .convert T U x => if isSlT P T then v0 s (opBytesStr P s T U x) else v0 s (opConc P s o)
  | .makeSlice T x y => lfS (opMakeSliceC P s nid T x y)
  | .slice T x lo hi mx => if isStT P T then vC s (opStrSlice P s T x lo hi mx) else (match mx with
    | none => lfS (opSliceC P s T x lo hi)
    | some _ => none)
  | .fieldAddr T x f => lf0 ((opFieldAddr P s T x f).map fun l => (l, s))
  | .field T x f => vl0 s (opField P s T x f)
  | .indexAddr T x y => if isLastR s x then lfC s (opIndexL P s T x y) else lfC s (opIndexAddrC P s T x y)
  | .index T x y => vC s (opStrIndex P s T x y)
  | .extract x i => av0 s (opExtract s x i)
  | .makeMap T h => (match h with
    | none => lf0 (opMakeMap P s nid T)
    | some _ => none)
  | .mapUpdate T m k v => stC ((opMapUpd P s T m k v).map fun s' => ([], s'))
  | .lookup T m k ok => if ok then none else v0 s (opMapLook P s T m k)
  | .range T m => lf0 (opRange P s nid T m)
  | .entry it => av0 s (opEntry s it)
  | .makeFunc f first captured => av0 s (opMakeFunc s f first.toList captured.toList)
  | .call c => match c.callee with
    | .builtin .len => (match c.args.toList, c.argTypes.toList with
      | [x], [T] => if isSlT P T then (if isLastR s x then v0 s (opLenL P s T x) else v0 s (opLen P s T x)) else if isMapT P T then v0 s (opMapLen P s T x) else v0 s (opConc P s o)
      | _, _ => none)
    | .builtin .append => (match c.args.toList, c.argTypes.toList with
      | [x, y], [T, U] => if isStT P U then lfS (opAppendStrC P s nid T U x y) else if U = T then (if isLastR s x then lfS (opAppendL P s nid T x y) else lfS (opAppendC P s nid T x y)) else none
      | _, _ => none)
    | .builtin .delete => (match c.args.toList, c.argTypes.toList with
      | [x, y], [T, U] => stC ((opMapDel P s T U x y).map fun s' => ([], s'))
      | _, _ => none)
    | .builtin .min => v0 s (opConc P s o)
    | .builtin .max => v0 s (opConc P s o)
    | _ => none
  | _ => none

section
variable {P : Program} {n B : Nat} {Iq : List Nat} {s : St} {g : Gh} {a : Act} {w : World}
/-- The operation leads to the state s' and yields av. -/
def Out (P : Program) (n B : Nat) (Iq : List Nat) (s : St) (g : Gh) (a : Act) (w : World) (o : Oper) (av : AV) (s' : St) : Prop :=
  ∀ (K : Act → World → Prop) (Q : Exit → Act → World → Prop), (∀ v g' w', Go B Iq s g w s' g' w' → Rel n B Iq s' g' a w' → AVR s' g' w' av v → K (a.put o.dst v) w') → o.wp P a w K Q
theorem Out.val {o : Oper} {av : AV} {s' : St} {v : Value} {w' : World} {g' : Gh} (hr : (execOp a.eval o).run P w = .ok (.value v) w') (h1 : Go B Iq s g w s' g' w') (h2 : Rel n B Iq s' g' a w') (h3 : AVR s' g' w' av v) : Out P n B Iq s g a w o av s' := by
  intro K Q hK
  unfold Oper.wp
  rw [hr, Oper.upon_value]
  exact hK v g' w' h1 h2 h3
theorem Out.skip {o : Oper} {s' : St} {w' : World} {g' : Gh} (hr : (execOp a.eval o).run P w = .ok .skip w') (h1 : Go B Iq s g w s' g' w') (h2 : Rel n B Iq s' g' a w') : Out P n B Iq s g a w o .dead s' := by
  intro K Q hK
  unfold Oper.wp
  rw [hr, Oper.upon_skip]
  exact hK _ g' w' h1 h2 trivial
theorem Out.here {o : Oper} {av : AV} {v : Value} (h : Rel n B Iq s g a w) (hr : (execOp a.eval o).run P w = .ok (.value v) w) (h3 : AVR s g w av v) : Out P n B Iq s g a w o av s :=
  Out.val hr (Go.refl B Iq s g w) h h3
theorem opMove_ok (h : Rel n B Iq s g a w) {nid : Nat} {T : TypeId} {x : Operand} {av : AV} {s' : St} (e : opMove P s nid T x = some (av, s')) :
    ∃ g', Go B Iq s g w s' g' w ∧ Rel n B Iq s' g' a w ∧ AVR s' g' w av (a.eval x) := by
  unfold opMove at e
  split at e
  · rename_i hn
    unfold isNil at hn
    split at hn
    · exact opNil_ok h e
    · cases hn
  · cases e
    exact ⟨g, Go.refl B Iq s g w, h, op_R h x⟩
theorem opPick_ok (h : Rel n B Iq s g a w) {c x y : Operand} {av : AV} (e : opPick s c x y = some av) :
    ∃ t : Bool, a.eval c = .bool t ∧ AVR s g w av (bif t then a.eval x else a.eval y) := by
  unfold opPick at e
  split at e
  · rename_i t hc
    refine ⟨t, (conc_R h hc).1, ?_⟩
    split at e
    · rename_i p q hb
      cases e
      unfold boolsOf at hb
      split at hb <;> cases hb
      rename_i hx hy
      rw [(conc_R h hx).1, (conc_R h hy).1]
      cases t
      · exact ⟨rfl, rfl⟩
      · exact ⟨rfl, rfl⟩
    · cases e
      cases t
      · exact op_R h y
      · exact op_R h x
  · cases e
theorem opExtract_ok (h : Rel n B Iq s g a w) {x : Operand} {i : Nat} {av : AV} (e : opExtract s x i = some av) :
    ∃ v, (Instr.extract (a.eval x) i).run P w = .ok v w ∧ AVR s g w av v := by
  unfold opExtract at e
  split at e
  · rename_i vs hx
    split at e <;> cases e
    rename_i v hv
    have k := op_R h x
    rw [hx] at k
    obtain ⟨us, hu, hsz, hk⟩ := k
    obtain ⟨u, e1, e2⟩ := hk i v hv
    refine ⟨u, ?_, e2⟩
    rw [hu]
    simp [Instr.extract, e1]
  · cases e
theorem opNilCheck_ok (h : Rel n B Iq s g a w) {x : Operand} {av : AV} (e : opNilCheck s x = some av) :
    (∃ ad, a.eval x = .pointer (some ad)) ∧ AVR s g w av (a.eval x) := by
  unfold opNilCheck at e
  split at e
  · rename_i id off hx
    obtain ⟨hl, h1⟩ := leaf_R h hx
    split at e <;> cases e
    rename_i T ls hr
    refine ⟨?_, hl, h1⟩
    simp only [LfR, hr] at hl
    obtain ⟨b, _, hu⟩ := hl
    exact ⟨_, hu⟩
  · rename_i t xs i off hx
    obtain ⟨hl, h1⟩ := leaf_R h hx
    cases e
    refine ⟨?_, hl, h1⟩
    obtain ⟨ad, cs, hu, _⟩ := hl
    exact ⟨_, hu⟩
  · rename_i id i off hx
    obtain ⟨hl, h1⟩ := leaf_R h hx
    split at e <;> cases e
    rename_i T t xs hr
    refine ⟨?_, hl, h1⟩
    simp only [LfR, hr] at hl
    obtain ⟨_, b, _, hu⟩ := hl
    exact ⟨_, hu⟩
  · cases e
theorem leavesL_R (h : Rel n B Iq s g a w) : ∀ {xs : List Operand} {ls : List Lf}, leavesL s xs = some ls → LsR s g w ls (xs.map a.eval)
  | [], ls, e => by cases e; trivial
  | x :: r, ls, e => by
    simp only [leavesL] at e
    obtain ⟨l, e1, e⟩ := Option.bind_eq_some_iff.1 e
    obtain ⟨ls', e2, e⟩ := Option.bind_eq_some_iff.1 e
    cases e
    exact ⟨leaf_R h e1, leavesL_R h e2⟩
theorem lfC_dir {x : Option (List Bool × Lf)} {r : AV × St} (e : dir (lfC s x) = some r) : ∃ l, dir x = some l ∧ r = (.vl (.lf l), s) := by
  obtain ⟨cs, e1, e2⟩ := dir_some e
  unfold lfC at e1
  split at e1 <;> cases e1
  exact ⟨_, by simp [dir, e2], rfl⟩
theorem lfS_dir {x : Option (List Bool × Lf × St)} {r : AV × St} (e : dir (lfS x) = some r) : ∃ l s', dir x = some (l, s') ∧ r = (.vl (.lf l), s') := by
  obtain ⟨cs, e1, e2⟩ := dir_some e
  unfold lfS at e1
  split at e1 <;> cases e1
  exact ⟨_, _, by simp [dir, e2], rfl⟩
theorem stC_dir {x : Option (List Bool × St)} {r : AV × St} (e : dir (stC x) = some r) : ∃ s', dir x = some s' ∧ r = (.dead, s') := by
  obtain ⟨cs, e1, e2⟩ := dir_some e
  unfold stC at e1
  split at e1 <;> cases e1
  exact ⟨_, by simp [dir, e2], rfl⟩
theorem vC_dir {x : Option (List Bool × Value)} {r : AV × St} (e : dir (vC s x) = some r) : ∃ v, dir x = some v ∧ r = (.vl (.lf (.c v)), s) := by
  obtain ⟨cs, e1, e2⟩ := dir_some e
  unfold vC at e1
  split at e1 <;> cases e1
  exact ⟨_, by simp [dir, e2], rfl⟩
theorem lf0_dir {x : Option (Lf × St)} {r : AV × St} (e : dir (lf0 x) = some r) : ∃ l s', x = some (l, s') ∧ r = (.vl (.lf l), s') := by
  obtain ⟨cs, e1, e2⟩ := dir_some e
  unfold lf0 at e1
  split at e1 <;> cases e1
  exact ⟨_, _, rfl, rfl⟩
theorem v0_dir {x : Option Value} {r : AV × St} (e : dir (v0 s x) = some r) : ∃ v, x = some v ∧ r = (.vl (.lf (.c v)), s) := by
  obtain ⟨cs, e1, e2⟩ := dir_some e
  unfold v0 at e1
  split at e1 <;> cases e1
  exact ⟨_, rfl, rfl⟩
theorem vl0_dir {x : Option Vl} {r : AV × St} (e : dir (vl0 s x) = some r) : ∃ v, x = some v ∧ r = (.vl v, s) := by
  obtain ⟨cs, e1, e2⟩ := dir_some e
  unfold vl0 at e1
  split at e1 <;> cases e1
  exact ⟨_, rfl, rfl⟩
theorem av0_dir {x : Option AV} {r : AV × St} (e : dir (av0 s x) = some r) : ∃ v, x = some v ∧ r = (v, s) := by
  obtain ⟨cs, e1, e2⟩ := dir_some e
  unfold av0 at e1
  split at e1 <;> cases e1
  exact ⟨_, rfl, rfl⟩
theorem avS_dir {x : Option (AV × St)} {r : AV × St} (e : dir (avS x) = some r) : x = some r := by
  obtain ⟨cs, e1, e2⟩ := dir_some e
  unfold avS at e1
  split at e1 <;> cases e1
  rfl
theorem map_dir {x : Option St} {s' : St} (e : dir (x.map fun s' => (([] : List Bool), s')) = some s') : x = some s' := by
  cases x with
  | none => cases e
  | some y => exact e
theorem vl_value {v : Value} (h1 : v.oneCell' = true) : AVR s g w (.vl (.lf (.c v))) v := ⟨rfl, h1⟩
theorem stepC_ok (h : Rel n B Iq s g a w) {nid : Nat} {o : Oper} {av : AV} {s' : St} (e : dir (stepC P s nid o) = some (av, s')) : Out P n B Iq s g a w o av s' := by
  obtain ⟨dst, op, type, pos, after, guard⟩ := o
  have viaConc : ∀ {op : Op}, (∀ cs b, op ≠ .select cs b) → dir (v0 s (opConc P s ⟨dst, op, type, pos, after, guard⟩)) = some (av, s') → Out P n B Iq s g a w ⟨dst, op, type, pos, after, guard⟩ av s' := by
    intro op hs e
    obtain ⟨v, e1, e2⟩ := v0_dir e
    cases e2
    obtain ⟨k1, k2⟩ := opConc_ok h hs e1
    exact Out.here h k1 (vl_value k2)
  cases op <;> simp only [stepC] at e <;> first | (cases e; done) | skip
  case move x =>
    obtain ⟨g', k1, k2, k3⟩ := opMove_ok h (avS_dir e)
    exact Out.val (v := a.eval x) (by simp [execOp]) k1 k2 k3
  case assign x =>
    obtain ⟨g', k1, k2, k3⟩ := opMove_ok h (avS_dir e)
    exact Out.val (v := a.eval x) (by simp [execOp]) k1 k2 k3
  case pick c x y =>
    obtain ⟨v, e1, e2⟩ := av0_dir e
    cases e2
    obtain ⟨t, k1, k2⟩ := opPick_ok h e1
    refine Out.here h (v := bif t then a.eval x else a.eval y) ?_ k2
    simp only [execOp, k1]
    cases t <;> simp [asBool]
  case alloc T =>
    obtain ⟨l, s1, e1, e2⟩ := lf0_dir e
    cases e2
    obtain ⟨x, w', g', k1, k2, k3, k4, k5⟩ := opAlloc_ok h e1
    exact Out.val (v := x) (by simp [execOp, k1]) k2 k3 ⟨k4, k5⟩
  case box T x =>
    split at e
    · rename_i v hv
      obtain ⟨l, s1, e1, e2⟩ := lf0_dir e
      cases e2
      obtain ⟨x', w', g', k1, k2, k3, k4, k5⟩ := opBox_ok (P := P) h (value_R h hv) e1
      exact Out.val (v := x') (by simp [execOp, k1]) k2 k3 ⟨k4, k5⟩
    · cases e
  case build T parts =>
    obtain ⟨v, e1, e2⟩ := vl0_dir e
    cases e2
    obtain ⟨u, k1, k2⟩ := opBuild_ok h e1
    exact Out.here h (v := u) (by simp only [execOp, Sem.run_bind, k1]; rfl) k2
  case buildSlice T len parts =>
    split at e
    · rename_i hsl
      have hlen : len = 1 := by
        unfold isSlSl at hsl
        split at hsl
        · split at hsl
          · exact Nat.eq_of_beq_eq_true hsl
          · cases hsl
        · cases hsl
      subst hlen
      obtain ⟨l, s1, e1, e2⟩ := lf0_dir e
      cases e2
      obtain ⟨u, w', g', k1, k2, k3, k4, k5⟩ := opBuildL_ok h e1
      exact Out.val (v := u) (by simp only [execOp, Sem.run_bind, k1]; rfl) k2 k3 ⟨k4, k5⟩
    · obtain ⟨l, s1, e1, e2⟩ := lf0_dir e
      cases e2
      obtain ⟨u, w', g', k1, k2, k3, k4, k5⟩ := opBuildSlice_ok h e1
      exact Out.val (v := u) (by simp only [execOp, Sem.run_bind, k1]; rfl) k2 k3 ⟨k4, k5⟩
  case load T x =>
    split at e
    · obtain ⟨l, e1, e2⟩ := lfC_dir e
      cases e2
      obtain ⟨u, k1, k2, k3⟩ := opLoadL_ok h e1
      exact Out.here h (v := u) (by simp [execOp, k1]) ⟨k2, k3⟩
    · obtain ⟨v, e1, e2⟩ := vl0_dir e
      cases e2
      obtain ⟨u, k1, k2⟩ := opLoad_ok h e1
      exact Out.here h (v := u) (by simp [execOp, k1]) k2
  case store T x y =>
    split at e
    · obtain ⟨s1, e1, e2⟩ := stC_dir e
      cases e2
      obtain ⟨w', g', k1, k2, k3⟩ := opStoreL_ok h e1
      exact Out.skip (by simp [execOp, k1]) k2 k3
    · obtain ⟨s1, e1, e2⟩ := stC_dir e
      cases e2
      obtain ⟨w', g', k1, k2, k3⟩ := opStore_ok h (opStoreC_dir e1)
      exact Out.skip (by simp [execOp, k1]) k2 k3
  case nilCheck x =>
    obtain ⟨v, e1, e2⟩ := av0_dir e
    cases e2
    obtain ⟨⟨ad, k1⟩, k2⟩ := opNilCheck_ok h e1
    refine Out.here h (v := a.eval x) ?_ k2
    simp [execOp, k1]
  case binOp op T x y U =>
    have viaV : ∀ {op : BinOp} {v : Value}, ((do eqGuard op T x y (a.eval x) (a.eval y); binOp op T (a.eval x) (a.eval y)) : Sem Value).run P w = .ok v w ∧ v.oneCell' = true → Out P n B Iq s g a w ⟨dst, .binOp op T x y U, type, pos, after, guard⟩ (.vl (.lf (.c v))) s := by
      intro op v hv
      refine Out.here h (v := v) ?_ (vl_value hv.2)
      simp only [execOp, Sem.run_bind] at hv ⊢
      rw [hv.1]
      rfl
    have hsel : ∀ (op : BinOp) cs b, Op.binOp op T x y U ≠ .select cs b := by intro op cs b q; cases q
    split at e
    · split at e
      · obtain ⟨v, e1, e2⟩ := vC_dir e
        cases e2
        exact viaV (opStrAdd_ok h e1)
      · exact viaConc (hsel _) e
    · obtain ⟨v, e1, e2⟩ := vC_dir e
      cases e2
      exact viaV (opDiv_ok h e1)
    · obtain ⟨v, e1, e2⟩ := vC_dir e
      cases e2
      exact viaV (opDiv_ok h e1)
    · split at e
      · obtain ⟨v, e1, e2⟩ := v0_dir e
        cases e2
        exact viaV (opEqAg_ok h e1)
      · exact viaConc (hsel _) e
    · split at e
      · obtain ⟨v, e1, e2⟩ := v0_dir e
        cases e2
        exact viaV (opEqAg_ok h e1)
      · exact viaConc (hsel _) e
    · exact viaConc (hsel _) e
  case unOp op T x => exact viaConc (by intro cs b q; cases q) e
  case convert T U x =>
    split at e
    · obtain ⟨v, e1, e2⟩ := v0_dir e
      cases e2
      obtain ⟨k1, k2⟩ := opBytesStr_ok h e1
      exact Out.here h (v := v) (by simp [execOp, k1]) (vl_value k2)
    · exact viaConc (by intro cs b q; cases q) e
  case makeSlice T x y =>
    obtain ⟨l, s1, e1, e2⟩ := lfS_dir e
    cases e2
    obtain ⟨u, w', g', k1, k2, k3, k4, k5⟩ := opMakeSlice_ok h (opMakeSliceC_dir e1)
    exact Out.val (v := u) (by simp [execOp, k1]) k2 k3 ⟨k4, k5⟩
  case slice T x lo hi mx =>
    split at e
    · obtain ⟨v, e1, e2⟩ := vC_dir e
      cases e2
      obtain ⟨k1, k2⟩ := opStrSlice_ok h e1
      exact Out.here h (v := v) (by simp only [execOp, Sem.run_bind, k1]; rfl) (vl_value k2)
    · split at e
      · obtain ⟨l, s1, e1, e2⟩ := lfS_dir e
        cases e2
        obtain ⟨u, g', k1, k2, k3, k4, k5⟩ := opSlice_ok h (opSliceC_dir e1)
        exact Out.val (v := u) (by simp only [execOp, Sem.run_bind, Option.map_none, k1]; rfl) k2 k3 ⟨k4, k5⟩
      · cases e
  case fieldAddr T x f =>
    obtain ⟨l, s1, e1, e2⟩ := lf0_dir e
    cases e2
    obtain ⟨l', e3, e4⟩ := Option.map_eq_some_iff.1 e1
    cases e4
    obtain ⟨u, k1, k2, k3⟩ := opFieldAddr_ok h e3
    exact Out.here h (v := u) (by simp [execOp, k1]) ⟨k2, k3⟩
  case field T x f =>
    obtain ⟨v, e1, e2⟩ := vl0_dir e
    cases e2
    obtain ⟨u, k1, k2⟩ := opField_ok h e1
    exact Out.here h (v := u) (by simp [execOp, k1]) k2
  case indexAddr T x y =>
    split at e
    · obtain ⟨l, e1, e2⟩ := lfC_dir e
      cases e2
      obtain ⟨u, k1, k2, k3⟩ := opIndexL_ok h e1
      exact Out.here h (v := u) (by simp [execOp, k1]) ⟨k2, k3⟩
    · obtain ⟨l, e1, e2⟩ := lfC_dir e
      cases e2
      obtain ⟨u, k1, k2, k3⟩ := opIndexAddr_ok h (opIndexAddrC_dir e1)
      exact Out.here h (v := u) (by simp [execOp, k1]) ⟨k2, k3⟩
  case index T x y =>
    obtain ⟨v, e1, e2⟩ := vC_dir e
    cases e2
    obtain ⟨k1, k2⟩ := opStrIndex_ok h e1
    exact Out.here h (v := v) (by simp [execOp, k1]) (vl_value k2)
  case extract x i =>
    obtain ⟨v, e1, e2⟩ := av0_dir e
    cases e2
    obtain ⟨u, k1, k2⟩ := opExtract_ok (P := P) h e1
    exact Out.here h (v := u) (by simp [execOp, k1]) k2
  case makeMap T hint =>
    cases hint with
    | some _ => cases e
    | none =>
      obtain ⟨l, s1, e1, e2⟩ := lf0_dir e
      cases e2
      obtain ⟨u, w', g', k1, k2, k3, k4, k5⟩ := opMakeMap_ok h e1
      exact Out.val (v := u) (by simp [execOp, k1]) k2 k3 ⟨k4, k5⟩
  case mapUpdate T m k v =>
    obtain ⟨s1, e1, e2⟩ := stC_dir e
    cases e2
    obtain ⟨w', g', k1, k2, k3⟩ := opMapUpd_ok h (map_dir e1)
    exact Out.skip (by simp [execOp, k1]) k2 k3
  case lookup T m k ok =>
    cases ok with
    | true => cases e
    | false =>
      obtain ⟨v, e1, e2⟩ := v0_dir e
      cases e2
      obtain ⟨k1, k2⟩ := opMapLook_ok h e1
      exact Out.here h (v := v) (by simp [execOp, k1]) (vl_value k2)
  case range T m =>
    obtain ⟨l, s1, e1, e2⟩ := lf0_dir e
    cases e2
    obtain ⟨u, w', g', k1, k2, k3, k4, k5⟩ := opRange_ok h e1
    exact Out.val (v := u) (by simp [execOp, k1]) k2 k3 ⟨k4, k5⟩
  case entry it =>
    obtain ⟨av, e1, e2⟩ := av0_dir e
    cases e2
    obtain ⟨v, k1, k2⟩ := opEntry_ok (P := P) h e1
    exact Out.here h (v := v) (by simp [execOp, k1]) k2
  case makeFunc f first captured =>
    obtain ⟨v, e1, e2⟩ := av0_dir e
    cases e2
    unfold opMakeFunc at e1
    split at e1
    · rename_i f0 hfirst
      obtain ⟨ls, q1, rfl⟩ := Option.map_eq_some_iff.1 e1
      have hf' : first = #[] := by apply Array.toList_inj.1; simpa using hfirst
      subst hf'
      refine Out.here h (v := .func (.func f0) #[] (captured.map a.eval)) (by simp [execOp, Instr.makeFunc]) ⟨_, rfl, ?_⟩
      rw [Array.toList_map]
      exact leavesL_R h q1
    · cases e1
  case call c =>
    obtain ⟨callee, args, argTypes⟩ := c
    simp only at e
    split at e
    · split at e
      · rename_i x T ha ht
        have ha' : args = #[x] := by apply Array.toList_inj.1; simpa using ha
        have ht' : argTypes = #[T] := by apply Array.toList_inj.1; simpa using ht
        subst ha' ht'
        split at e
        · split at e
          · obtain ⟨v, e1, e2⟩ := v0_dir e
            cases e2
            obtain ⟨k1, k2⟩ := opLenL_ok (ty := type) h e1
            exact Out.here h (v := v) (by simp [execOp, resolve, invoke, builtin, k1]) (vl_value k2)
          · obtain ⟨v, e1, e2⟩ := v0_dir e
            cases e2
            obtain ⟨k1, k2⟩ := opLen_ok (ty := type) h e1
            exact Out.here h (v := v) (by simp [execOp, resolve, invoke, builtin, k1]) (vl_value k2)
        · split at e
          · obtain ⟨v, e1, e2⟩ := v0_dir e
            cases e2
            obtain ⟨k1, k2⟩ := opMapLen_ok (ty := type) h e1
            exact Out.here h (v := v) (by simp [execOp, resolve, invoke, builtin, k1]) (vl_value k2)
          · exact viaConc (by intro cs b q; cases q) e
      · cases e
    · split at e
      · rename_i x y T U ha ht
        have ha' : args = #[x, y] := by apply Array.toList_inj.1; simpa using ha
        have ht' : argTypes = #[T, U] := by apply Array.toList_inj.1; simpa using ht
        subst ha' ht'
        split at e
        · obtain ⟨l, s1, e1, e2⟩ := lfS_dir e
          cases e2
          obtain ⟨u, w', g', k1, k2, k3, k4, k5⟩ := opAppendStr_ok (ty := type) h (opAppendStrC_dir e1)
          exact Out.val (v := u) (by simp [execOp, resolve, invoke, builtin, k1]) k2 k3 ⟨k4, k5⟩
        · split at e
          · rename_i hUT
            subst hUT
            split at e
            · obtain ⟨l, s1, e1, e2⟩ := lfS_dir e
              cases e2
              obtain ⟨u, w', g', k1, k2, k3, k4, k5⟩ := opAppendL_ok (ty := type) h e1
              exact Out.val (v := u) (by simp [execOp, resolve, invoke, builtin, k1]) k2 k3 ⟨k4, k5⟩
            · obtain ⟨l, s1, e1, e2⟩ := lfS_dir e
              cases e2
              obtain ⟨u, w', g', k1, k2, k3, k4, k5⟩ := opAppend_ok (ty := type) h (opAppendC_dir e1)
              exact Out.val (v := u) (by simp [execOp, resolve, invoke, builtin, k1]) k2 k3 ⟨k4, k5⟩
          · cases e
      · cases e
    · split at e
      · rename_i x y T U ha ht
        have ha' : args = #[x, y] := by apply Array.toList_inj.1; simpa using ha
        have ht' : argTypes = #[T, U] := by apply Array.toList_inj.1; simpa using ht
        subst ha' ht'
        obtain ⟨s1, e1, e2⟩ := stC_dir e
        cases e2
        obtain ⟨w', g', k1, k2, k3⟩ := opMapDel_ok (ty := type) h (map_dir e1)
        exact Out.val (v := .tuple #[]) (by simp [execOp, resolve, invoke, builtin, k1]) k2 k3 trivial
      · cases e
    · exact viaConc (by intro cs b q; cases q) e
    · exact viaConc (by intro cs b q; cases q) e
    · cases e
end
end Go.Proofs.Ytjoiklaecelalaa.R
