/- Patterns of states: a state at a loop's head is a pattern and data. No condition. -/
import Derived.Test.YtkfoebbjncngjaaRCanon
namespace Go.Proofs.Ytkfoebbjncngjaa.R
open Go Go.RowKit
set_option linter.unusedVariables false
set_option linter.unusedSimpArgs false
inductive Pe where
 | d (t : Ty)
 | row (id : Nat)
 | ptr (id off : Nat)
 | sp (id : Nat)
inductive Pv where
 | dead
 | lf (p : Pe)
 | ag (ps : List Pe)
 | fn (f : FuncId) (ps : List Pe)
inductive Pr where
 | dead
 | unborn
 | box (T : TypeId) (ps : List Pe)
 | row (e : TypeId) (t : Ty)
 | last (e : TypeId) (t : Ty) (j : Nat)
 | map (t : Ty)
 | iter (t : Ty)
inductive Fx where
 | sl (slot ix : Nat) (t : Ty)
 | row (slot ix : Nat) (e : TypeId) (t : Ty)
 | boxSl (slot ix : Nat) (t : Ty)
 | boxRow (slot ix : Nat) (e : TypeId) (t : Ty)
 | self (slot ix : Nat)
 | last (slot : Nat) (e : TypeId) (t : Ty)
structure Pat where
 fx : List Fx
 cs : List (Nat × Pv)
 rs : List Pr
def Td : List Pe → Type → Type
 | [], X => X
 | .d t :: r, X => t.D × Td r X
 | .row _ :: r, X => Td r X
 | .ptr _ _ :: r, X => Td r X
 | .sp _ :: r, X => Td r X
def PvD : Pv → Type → Type
 | .dead, X => X
 | .lf p, X => Td [p] X
 | .ag ps, X => Td ps X
 | .fn _ ps, X => Td ps X
def f5 : List (Nat × Pv) → Type → Type
 | [], X => X
 | p :: r, X => PvD p.2 (f5 r X)
def PrD : Pr → Type → Type
 | .dead, X => X
 | .unborn, X => X
 | .box _ ps, X => Td ps X
 | .row _ t, X => List t.D × X
 | .last _ t _, X => List (List t.D) × Bool × X
 | .map t, X => List (ByteArray × t.D) × X
 | .iter t, X => List (ByteArray × t.D) × List (ByteArray × t.D) × Option (ByteArray × t.D) × X
def Z3 : List Pr → Type → Type
 | [], X => X
 | p :: r, X => PrD p (Z3 r X)
def Pat.D (p : Pat) : Type := f5 p.cs (Z3 p.rs Unit)
section
variable {X : Type}
def Ap : (ps : List Pe) → Td ps X → List Lf × X
 | [], d => ([], d)
 | .d t :: r, d => (t.leafs d.1 ++ (Ap r d.2).1, (Ap r d.2).2)
 | .row id :: r, d => (.row id :: (Ap r d).1, (Ap r d).2)
 | .ptr id off :: r, d => (.ptr id off :: (Ap r d).1, (Ap r d).2)
 | .sp id :: r, d => (.sp id :: (Ap r d).1, (Ap r d).2)
def s6 : List Lf → AV
 | [l] => .vl (.lf l)
 | _ => .dead
def Hr : (p : Pv) → PvD p X → AV × X
 | .dead, d => (.dead, d)
 | .lf p, d => (s6 (Ap [p] d).1, (Ap [p] d).2)
 | .ag ps, d => (.vl (.ag (Ap ps d).1), (Ap ps d).2)
 | .fn f ps, d => (.fn f (Ap ps d).1, (Ap ps d).2)
def Hs : (l : List (Nat × Pv)) → f5 l X → List (Nat × AV) × X
 | [], d => ([], d)
 | p :: r, d => ((p.1, (Hr p.2 d).1) :: (Hs r (Hr p.2 d).2).1, (Hs r (Hr p.2 d).2).2)
def In : (p : Pr) → PrD p X → Res × X
 | .dead, d => (.dead, d)
 | .unborn, d => (.unborn, d)
 | .box T ps, d => (.box T (Ap ps d).1, (Ap ps d).2)
 | .row e t, d => (.row e t d.1, d.2)
 | .last e t j, d => (.last e t d.1 d.2.1 j, d.2.2)
 | .map t, d => (.map t d.1, d.2)
 | .iter t, d => (.iter t d.1 d.2.1 d.2.2.1, d.2.2.2)
def Jm : (l : List Pr) → Z3 l X → List Res × X
 | [], d => ([], d)
 | p :: r, d => ((In p d).1 :: (Jm r (In p d).2).1, (Jm r (In p d).2).2)
end
def Pat.st (p : Pat) (d : p.D) : St := Xs (Hs p.cs d).1 (Jm p.rs (Hs p.cs d).2).1
def Pat.nid (p : Pat) : Nat := p.rs.length
def Yy : (t : Ty) → Lf → Option t.D
 | .int k, .c (.int k' n) => if k' = k then some n else none
 | .bool, .c (.bool b) => some b
 | .str, .c (.string b) => some b
 | .sl t, .sl t' xs => if h : t' = t then some (h ▸ xs) else none
 | _, _ => none
def H9 : (t : Ty) → List Lf → Option (t.D × List Lf)
 | .unit, ls => some ((), ls)
 | .pair a b, ls => (H9 a ls).bind fun p => (H9 b p.2).bind fun q => some ((p.1, q.1), q.2)
 | .int k, l :: r => (Yy (.int k) l).bind fun x => some (x, r)
 | .bool, l :: r => (Yy .bool l).bind fun x => some (x, r)
 | .str, l :: r => (Yy .str l).bind fun x => some (x, r)
 | .sl t, l :: r => (Yy (.sl t) l).bind fun x => some (x, r)
 | _, [] => none
def Wj (id : Nat) : List Lf → Option (List Lf)
 | .row j :: r => if j = id then some r else none
 | _ => none
def Wk (id off : Nat) : List Lf → Option (List Lf)
 | .ptr j o :: r => if j = id then (if o = off then some r else none) else none
 | _ => none
def Yz (id : Nat) : List Lf → Option (List Lf)
 | .sp j :: r => if j = id then some r else none
 | _ => none
def Acl {X : Type} (k : Option X) : List Lf → Option X
 | [] => k
 | _ :: _ => none
section
variable {X : Type} (k : Option X)
def Fo : (ps : List Pe) → List Lf → Option (Td ps X)
 | [], ls => Acl k ls
 | .d t :: r, ls => (H9 t ls).bind fun p => (Fo r p.2).bind fun q => some (p.1, q)
 | .row id :: r, ls => (Wj id ls).bind fun ls' => Fo r ls'
 | .ptr id off :: r, ls => (Wk id off ls).bind fun ls' => Fo r ls'
 | .sp id :: r, ls => (Yz id ls).bind fun ls' => Fo r ls'
def Ada : AV → Option (List Lf)
 | .vl (.ag ls) => some ls
 | _ => none
def Acm (f : FuncId) : AV → Option (List Lf)
 | .fn f' ls => if f' = f then some ls else none
 | _ => none
def Adb : AV → Option Lf
 | .vl (.lf l) => some l
 | _ => none
def Ab0 : AV → Option Unit
 | .dead => some ()
 | _ => none
def s7 : (p : Pv) → AV → Option (PvD p X)
 | .dead, v => (Ab0 v).bind fun _ => k
 | .lf p, v => (Adb v).bind fun l => Fo k [p] [l]
 | .ag ps, v => (Ada v).bind fun ls => Fo k ps ls
 | .fn f ps, v => (Acm f v).bind fun ls => Fo k ps ls
def Abe (T : TypeId) : Res → Option (List Lf)
 | .box T' ls => if T' = T then some ls else none
 | _ => none
def Xt (e : TypeId) (t : Ty) : Res → Option (List t.D)
 | .row e' t' xs => if e' = e then (if h : t' = t then some (h ▸ xs) else none) else none
 | _ => none
def s8 (e : TypeId) (t : Ty) (j : Nat) : Res → Option (List (List t.D) × Bool)
 | .last e' t' xs c j' => if e' = e then (if j' = j then (if h : t' = t then some (h ▸ xs, c) else none) else none) else none
 | _ => none
def Abf (t : Ty) : Res → Option (List (ByteArray × t.D))
 | .map t' xs => if h : t' = t then some (h ▸ xs) else none
 | _ => none
def s9 (t : Ty) : Res → Option (List (ByteArray × t.D) × List (ByteArray × t.D) × Option (ByteArray × t.D))
 | .iter t' xs seen cur => if h : t' = t then some (h ▸ xs, h ▸ seen, h ▸ cur) else none
 | _ => none
def Aau : Res → Option Unit
 | .dead => some ()
 | _ => none
def f7 : Res → Option Unit
 | .unborn => some ()
 | _ => none
def Abg : (p : Pr) → Res → Option (PrD p X)
 | .dead, v => (Aau v).bind fun _ => k
 | .unborn, v => (f7 v).bind fun _ => k
 | .box T ps, v => (Abe T v).bind fun ls => Fo k ps ls
 | .row e t, v => (Xt e t v).bind fun xs => k.bind fun x => some (xs, x)
 | .last e t j, v => (s8 e t j v).bind fun xs => k.bind fun x => some (xs.1, xs.2, x)
 | .map t, v => (Abf t v).bind fun xs => k.bind fun x => some (xs, x)
 | .iter t, v => (s9 t v).bind fun xs => k.bind fun x => some (xs.1, xs.2.1, xs.2.2, x)
end
def Acn {X : Type} (k : Option X) {α : Type} : List α → Option X
 | [] => k
 | _ :: _ => none
def Ab1 {α : Type} : List α → Option (α × List α)
 | [] => none
 | a :: r => some (a, r)
def Xu {X : Type} (k : Option X) : (l : List (Nat × Pv)) → List (Nat × AV) → Option (f5 l X)
 | [], cs => Acn k cs
 | p :: r, cs => (Ab1 cs).bind fun q => if q.1.1 = p.1 then s7 (Xu k r q.2) p.2 q.1.2 else none
def Z4 {X : Type} (k : Option X) : (l : List Pr) → List Res → Option (Z3 l X)
 | [], rs => Acn k rs
 | p :: r, rs => (Ab1 rs).bind fun q => Abg (Z4 k r q.2) p q.1
theorem Ia {α β : Type} {a a' : α} {b b' : β} (h1 : a = a') (h2 : b = b') : (a, b) = (a', b') := by rw [h1, h2]
theorem Y0 : ∀ {t : Ty} {l : Lf} {x : t.D}, Yy t l = some x → t.leafs x = [l] := by
 intro t l x h
 unfold Yy at h
 split at h
 ·split at h <;> cases h
  rename_i hk
  subst hk
  rfl
 ·cases h; rfl
 ·cases h; rfl
 ·split at h <;> cases h
  rename_i hk
  subst hk
  rfl
 ·cases h
theorem Wl : ∀ {t : Ty} {ls : List Lf} {x : t.D} {r : List Lf}, H9 t ls = some (x, r) → ls = t.leafs x ++ r := by
 have one : ∀ {t : Ty} {l : Lf} {r0 r : List Lf} {x : t.D}, ((Yy t l).bind fun x => some (x, r0)) = some (x, r) → l :: r0 = t.leafs x ++ r := by
  intro t l r0 r x h
  obtain ⟨y, h1, h2⟩ := Option.bind_eq_some_iff.1 h
  cases h2
  rw [Y0 h1]
  rfl
 intro t
 induction t with
 | unit => intro ls x r h; simp only [H9] at h; cases h; rfl
 | pair a b iha ihb =>
  intro ls x r h
  simp only [H9] at h
  obtain ⟨p, h1, h2⟩ := Option.bind_eq_some_iff.1 h
  obtain ⟨q, h3, h4⟩ := Option.bind_eq_some_iff.1 h2
  cases h4
  have e1 := iha (x := p.1) (r := p.2) h1
  have e2 := ihb (x := q.1) (r := q.2) h3
  rw [e1, e2, ← List.append_assoc]
  rfl
 | int k => intro ls x r h; cases ls with
  | nil => simp [H9] at h
  | cons l ls => exact one h
 | bool => intro ls x r h; cases ls with
  | nil => simp [H9] at h
  | cons l ls => exact one h
 | str => intro ls x r h; cases ls with
  | nil => simp [H9] at h
  | cons l ls => exact one h
 | sl t _ => intro ls x r h; cases ls with
  | nil => simp [H9] at h
  | cons l ls => exact one h
theorem Y1 {id : Nat} {ls r : List Lf} (h : Wj id ls = some r) : ls = .row id :: r := by
 unfold Wj at h
 split at h
 ·split at h <;> cases h
  rename_i hj
  rw [hj]
 ·cases h
theorem f8 {id : Nat} {ls r : List Lf} (h : Yz id ls = some r) : ls = .sp id :: r := by
 unfold Yz at h
 split at h
 ·split at h <;> cases h
  rename_i hj
  rw [hj]
 ·cases h
theorem Y2 {id off : Nat} {ls r : List Lf} (h : Wk id off ls = some r) : ls = .ptr id off :: r := by
 unfold Wk at h
 split at h
 ·split at h
  ·rename_i hj
   split at h <;> cases h
   rename_i ho
   rw [hj, ho]
  ·cases h
 ·cases h
section
variable {X : Type} {k : Option X}
theorem Do : ∀ {ps : List Pe} {ls : List Lf} {d : Td ps X}, Fo k ps ls = some d → ∃ x, k = some x ∧ Ap ps d = (ls, x)
 | [], ls, d, h => by
  cases ls with
  | nil => exact ⟨d, h, rfl⟩
  | cons l ls => cases h
 | .d t :: r, ls, d, h => by
  simp only [Fo] at h
  obtain ⟨p, h1, h2⟩ := Option.bind_eq_some_iff.1 h
  obtain ⟨q, h3, h4⟩ := Option.bind_eq_some_iff.1 h2
  cases h4
  obtain ⟨x, e1, e2⟩ := Do h3
  refine ⟨x, e1, ?_⟩
  show (t.leafs p.1 ++ (Ap r q).1, (Ap r q).2) = _
  rw [e2, Wl (x := p.1) (r := p.2) h1]
 | .row id :: r, ls, d, h => by
  simp only [Fo] at h
  obtain ⟨ls', h1, h2⟩ := Option.bind_eq_some_iff.1 h
  obtain ⟨x, e1, e2⟩ := Do (ps := r) (d := d) h2
  refine ⟨x, e1, ?_⟩
  show (Lf.row id :: (Ap r d).1, (Ap r d).2) = _
  have e2' : Ap r (X := X) d = (ls', x) := e2
  rw [Y1 h1]
  have a1 : (Ap r (X := X) d).1 = ls' := congrArg Prod.fst e2'
  have a2 : (Ap r (X := X) d).2 = x := congrArg Prod.snd e2'
  exact Ia (congrArg (List.cons (Lf.row id)) a1) a2
 | .ptr id off :: r, ls, d, h => by
  simp only [Fo] at h
  obtain ⟨ls', h1, h2⟩ := Option.bind_eq_some_iff.1 h
  obtain ⟨x, e1, e2⟩ := Do (ps := r) (d := d) h2
  refine ⟨x, e1, ?_⟩
  show (Lf.ptr id off :: (Ap r d).1, (Ap r d).2) = _
  have e2' : Ap r (X := X) d = (ls', x) := e2
  rw [Y2 h1]
  have a1 : (Ap r (X := X) d).1 = ls' := congrArg Prod.fst e2'
  have a2 : (Ap r (X := X) d).2 = x := congrArg Prod.snd e2'
  exact Ia (congrArg (List.cons (Lf.ptr id off)) a1) a2
 | .sp id :: r, ls, d, h => by
  simp only [Fo] at h
  obtain ⟨ls', h1, h2⟩ := Option.bind_eq_some_iff.1 h
  obtain ⟨x, e1, e2⟩ := Do (ps := r) (d := d) h2
  refine ⟨x, e1, ?_⟩
  show (Lf.sp id :: (Ap r d).1, (Ap r d).2) = _
  have e2' : Ap r (X := X) d = (ls', x) := e2
  rw [f8 h1]
  have a1 : (Ap r (X := X) d).1 = ls' := congrArg Prod.fst e2'
  have a2 : (Ap r (X := X) d).2 = x := congrArg Prod.snd e2'
  exact Ia (congrArg (List.cons (Lf.sp id)) a1) a2
theorem f9 {p : Pv} {v : AV} {d : PvD p X} (h : s7 k p v = some d) : ∃ x, k = some x ∧ Hr p d = (v, x) := by
 cases p with
 | dead =>
  obtain ⟨u, h1, h2⟩ := Option.bind_eq_some_iff.1 h
  cases v <;> first | (cases h1; done) | skip
  exact ⟨d, h2, rfl⟩
 | lf p =>
  obtain ⟨l, h1, h2⟩ := Option.bind_eq_some_iff.1 h
  have hv : v = .vl (.lf l) := by
   cases v with
   | vl w => cases w with
    | lf l' => cases h1; rfl
    | ag ls => cases h1
   | dead => cases h1
   | tp vs => cases h1
   | fn f ls => cases h1
  subst hv
  obtain ⟨x, e1, e2⟩ := Do (ps := [p]) (d := d) h2
  refine ⟨x, e1, ?_⟩
  show (s6 (Ap [p] d).1, (Ap [p] d).2) = _
  have e2' : Ap [p] (X := X) d = ([l], x) := e2
  have a1 : (Ap [p] (X := X) d).1 = [l] := congrArg Prod.fst e2'
  have a2 : (Ap [p] (X := X) d).2 = x := congrArg Prod.snd e2'
  exact Ia (congrArg s6 a1) a2
 | ag ps =>
  obtain ⟨l, h1, h2⟩ := Option.bind_eq_some_iff.1 h
  have hv : v = .vl (.ag l) := by
   cases v with
   | vl w => cases w with
    | lf l' => cases h1
    | ag ls => cases h1; rfl
   | dead => cases h1
   | tp vs => cases h1
   | fn f ls => cases h1
  subst hv
  obtain ⟨x, e1, e2⟩ := Do (ps := ps) (d := d) h2
  refine ⟨x, e1, ?_⟩
  show (AV.vl (.ag (Ap ps d).1), (Ap ps d).2) = _
  have e2' : Ap ps (X := X) d = (l, x) := e2
  have a1 : (Ap ps (X := X) d).1 = l := congrArg Prod.fst e2'
  have a2 : (Ap ps (X := X) d).2 = x := congrArg Prod.snd e2'
  exact Ia (congrArg (fun l => AV.vl (.ag l)) a1) a2
 | fn f ps =>
  obtain ⟨l, h1, h2⟩ := Option.bind_eq_some_iff.1 h
  have hv : v = .fn f l := by
   cases v with
   | vl w => cases h1
   | dead => cases h1
   | tp vs => cases h1
   | fn f' ls =>
    simp only [Acm] at h1
    split at h1 <;> cases h1
    rename_i hf
    rw [hf]
  subst hv
  obtain ⟨x, e1, e2⟩ := Do (ps := ps) (d := d) h2
  refine ⟨x, e1, ?_⟩
  show (AV.fn f (Ap ps d).1, (Ap ps d).2) = _
  have e2' : Ap ps (X := X) d = (l, x) := e2
  have a1 : (Ap ps (X := X) d).1 = l := congrArg Prod.fst e2'
  have a2 : (Ap ps (X := X) d).2 = x := congrArg Prod.snd e2'
  exact Ia (congrArg (fun l => AV.fn f l) a1) a2
theorem g5 {p : Pr} {v : Res} {d : PrD p X} (h : Abg k p v = some d) : ∃ x, k = some x ∧ In p d = (v, x) := by
 cases p with
 | dead =>
  obtain ⟨u, h1, h2⟩ := Option.bind_eq_some_iff.1 h
  cases v <;> first | (cases h1; done) | skip
  exact ⟨d, h2, rfl⟩
 | unborn =>
  obtain ⟨u, h1, h2⟩ := Option.bind_eq_some_iff.1 h
  cases v <;> first | (cases h1; done) | skip
  exact ⟨d, h2, rfl⟩
 | box T ps =>
  obtain ⟨ls, h1, h2⟩ := Option.bind_eq_some_iff.1 h
  have hv : v = .box T ls := by
   unfold Abe at h1
   split at h1
   ·split at h1 <;> cases h1
    rename_i hT
    rw [hT]
   ·cases h1
  subst hv
  obtain ⟨x, e1, e2⟩ := Do (ps := ps) (d := d) h2
  refine ⟨x, e1, ?_⟩
  show (Res.box T (Ap ps d).1, (Ap ps d).2) = _
  have e2' : Ap ps (X := X) d = (ls, x) := e2
  have a1 : (Ap ps (X := X) d).1 = ls := congrArg Prod.fst e2'
  have a2 : (Ap ps (X := X) d).2 = x := congrArg Prod.snd e2'
  exact Ia (congrArg (Res.box T) a1) a2
 | row e t =>
  obtain ⟨xs, h1, h2⟩ := Option.bind_eq_some_iff.1 h
  obtain ⟨x, h3, h4⟩ := Option.bind_eq_some_iff.1 h2
  have hv : v = .row e t xs := by
   unfold Xt at h1
   split at h1
   ·split at h1
    ·rename_i he
     split at h1 <;> cases h1
     rename_i ht
     subst he ht
     rfl
    ·cases h1
   ·cases h1
  subst hv
  have hd : d = (xs, x) := (Option.some.inj h4).symm
  subst hd
  exact ⟨x, h3, rfl⟩
 | last e t j =>
  obtain ⟨xs, h1, h2⟩ := Option.bind_eq_some_iff.1 h
  obtain ⟨x, h3, h4⟩ := Option.bind_eq_some_iff.1 h2
  have hv : v = .last e t xs.1 xs.2 j := by
   unfold s8 at h1
   split at h1
   ·split at h1
    ·rename_i he
     split at h1
     ·rename_i hj
      split at h1 <;> cases h1
      rename_i ht
      subst he ht hj
      rfl
     ·cases h1
    ·cases h1
   ·cases h1
  subst hv
  have hd : d = (xs.1, xs.2, x) := (Option.some.inj h4).symm
  subst hd
  exact ⟨x, h3, rfl⟩
 | map t =>
  obtain ⟨xs, h1, h2⟩ := Option.bind_eq_some_iff.1 h
  obtain ⟨x, h3, h4⟩ := Option.bind_eq_some_iff.1 h2
  have hv : v = .map t xs := by
   unfold Abf at h1
   split at h1
   ·split at h1 <;> cases h1
    rename_i ht
    subst ht
    rfl
   ·cases h1
  subst hv
  have hd : d = (xs, x) := (Option.some.inj h4).symm
  subst hd
  exact ⟨x, h3, rfl⟩
 | iter t =>
  obtain ⟨xs, h1, h2⟩ := Option.bind_eq_some_iff.1 h
  obtain ⟨x, h3, h4⟩ := Option.bind_eq_some_iff.1 h2
  have hv : v = .iter t xs.1 xs.2.1 xs.2.2 := by
   unfold s9 at h1
   split at h1
   ·split at h1 <;> cases h1
    rename_i ht
    subst ht
    rfl
   ·cases h1
  subst hv
  have hd : d = (xs.1, xs.2.1, xs.2.2, x) := (Option.some.inj h4).symm
  subst hd
  exact ⟨x, h3, rfl⟩
end
theorem Z5 {α : Type} {l : List α} {q : α × List α} (h : Ab1 l = some q) : l = q.1 :: q.2 := by
 cases l with
 | nil => cases h
 | cons a r => cases h; rfl
theorem U8 {X : Type} {k : Option X} : ∀ {l : List (Nat × Pv)} {cs : List (Nat × AV)} {d : f5 l X}, Xu k l cs = some d → ∃ x, k = some x ∧ Hs l d = (cs, x)
 | [], cs, d, h => by
  cases cs with
  | nil => exact ⟨d, h, rfl⟩
  | cons l ls => cases h
 | p :: r, cs, d, h => by
  simp only [Xu] at h
  obtain ⟨q, h1, h2⟩ := Option.bind_eq_some_iff.1 h
  rw [Z5 h1]
  have h2 : (if q.1.1 = p.1 then s7 (Xu k r q.2) p.2 q.1.2 else none : Option (PvD p.2 (f5 r X))) = some d := h2
  split at h2
  ·rename_i hi
   obtain ⟨y, e1, e2⟩ := f9 (d := d) h2
   obtain ⟨x, e3, e4⟩ := U8 e1
   refine ⟨x, e3, ?_⟩
   show ((p.1, (Hr p.2 d).1) :: (Hs r (Hr p.2 d).2).1, (Hs r (Hr p.2 d).2).2) = _
   have e2' : Hr p.2 (X := f5 r X) d = (q.1.2, y) := e2
   have a1 : (Hr p.2 (X := f5 r X) d).1 = q.1.2 := congrArg Prod.fst e2'
   have a2 : (Hr p.2 (X := f5 r X) d).2 = y := congrArg Prod.snd e2'
   have a3 : Hs r (Hr p.2 (X := f5 r X) d).2 = (q.2, x) := (congrArg (Hs r) a2).trans e4
   have a4 : (Hs r (Hr p.2 (X := f5 r X) d).2).1 = q.2 := congrArg Prod.fst a3
   have a5 : (Hs r (Hr p.2 (X := f5 r X) d).2).2 = x := congrArg Prod.snd a3
   have a6 : (p.1, (Hr p.2 (X := f5 r X) d).1) = q.1 := (Ia hi.symm a1).trans rfl
   exact Ia (congr (congrArg List.cons a6) a4) a5
  ·cases h2
theorem U9 {X : Type} {k : Option X} : ∀ {l : List Pr} {rs : List Res} {d : Z3 l X}, Z4 k l rs = some d → ∃ x, k = some x ∧ Jm l d = (rs, x)
 | [], rs, d, h => by
  cases rs with
  | nil => exact ⟨d, h, rfl⟩
  | cons l ls => cases h
 | p :: r, rs, d, h => by
  simp only [Z4] at h
  obtain ⟨q, h1, h2⟩ := Option.bind_eq_some_iff.1 h
  rw [Z5 h1]
  obtain ⟨y, e1, e2⟩ := g5 (d := d) h2
  obtain ⟨x, e3, e4⟩ := U9 e1
  refine ⟨x, e3, ?_⟩
  show ((In p d).1 :: (Jm r (In p d).2).1, (Jm r (In p d).2).2) = _
  have e2' : In p (X := Z3 r X) d = (q.1, y) := e2
  have a1 : (In p (X := Z3 r X) d).1 = q.1 := congrArg Prod.fst e2'
  have a2 : (In p (X := Z3 r X) d).2 = y := congrArg Prod.snd e2'
  have a3 : Jm r (In p (X := Z3 r X) d).2 = (q.2, x) := (congrArg (Jm r) a2).trans e4
  have a4 : (Jm r (In p (X := Z3 r X) d).2).1 = q.2 := congrArg Prod.fst a3
  have a5 : (Jm r (In p (X := Z3 r X) d).2).2 = x := congrArg Prod.snd a3
  exact Ia (congr (congrArg List.cons a1) a4) a5
def Z6 : Lf → Bool
 | .c (.slice none 0 0) => true
 | _ => false
def Va (v : Vl) (i : Nat) (l : Lf) : Vl := match v with
 | .lf l0 => if i = 0 then .lf l else .lf l0
 | .ag ls => .ag (ls.set i l)
def Vb (ls : List Lf) (i : Nat) : Bool := match ls[i]? with
 | some l => Z6 l
 | none => false
def u1 (id : Nat) (ls : List Lf) (i : Nat) : Bool := match ls[i]? with
 | some (.c (.pointer none)) => true
 | some (.ptr j 0) => Nat.beq j id
 | _ => false
def Aco (t : Ty) (tt : Ty) (xs : List tt.D) : Option (List (List t.D)) := if h : tt = .sl t then some (show List (Ty.sl t).D from h ▸ xs) else none
def Xv (s : St) (nid : Nat) : Fx → Option (St × Nat)
 | .sl slot i t => match s.cell slot with
  | .vl v => if Vb v.ls i then some (s.setCell slot (.vl (Va v i (.sl t []))), nid) else some (s.frz (v.ls[i]?).toList, nid)
  | _ => some (s, nid)
 | .row slot i e t => match s.cell slot with
  | .vl v => if Vb v.ls i then (match s.res nid with
   | .unborn => some ((s.setRes nid (.row e t [])).setCell slot (.vl (Va v i (.row nid))), nid + 1)
   | _ => none) else some (s, nid)
  | _ => some (s, nid)
 | .boxSl slot i t => match s.cell slot with
  | .vl (.lf (.ptr id 0)) => match s.res id with
   | .box T ls => if Vb ls i then some (s.setRes id (.box T (ls.set i (.sl t []))), nid) else some (s.frz (ls[i]?).toList, nid)
   | _ => some (s, nid)
  | _ => some (s, nid)
 | .boxRow slot i e t => match s.cell slot with
  | .vl (.lf (.ptr id 0)) => match s.res id with
   | .box T ls => if Vb ls i then (match s.res nid with
    | .unborn => some ((s.setRes nid (.row e t [])).setRes id (.box T (ls.set i (.row nid))), nid + 1)
    | _ => none) else some (s, nid)
   | _ => some (s, nid)
  | _ => some (s, nid)
 | .self slot i => match s.cell slot with
  | .vl (.lf (.ptr id 0)) => match s.res id with
   | .box T ls => if u1 id ls i then some (s.setRes id (.box T (ls.set i (.sp id))), nid) else some (s, nid)
   | _ => some (s, nid)
  | _ => some (s, nid)
 | .last slot e1 t => match s.cell slot with
  | .vl (.lf (.row id)) => match s.res id with
   | .row e tt xs => match Aco t tt xs, s.res nid, s.res (nid + 1) with
    | some ys, .unborn, .unborn => some (((Bw (s.setRes (nid + 1) (.row e1 t [])) (some id)).setRes nid (.last e t ys false (nid + 1))).setCell slot (.vl (.lf (.row nid))), nid + 2)
    | _, _, _ => none
   | _ => some (s, nid)
  | _ => some (s, nid)
def Z7 (s : St) (nid : Nat) : List Fx → Option (St × Nat)
 | [] => some (s, nid)
 | f :: r => (Xv s nid f).bind fun p => Z7 p.1 p.2 r
def R0 : List (Nat × Pv) → List Nat
 | [] => []
 | p :: r => p.1 :: R0 r
def u3 (np : Nat) (live : List Nat) (s : St) : Option (List (Nat × AV) × List Res) :=
 let us := Ry s np live
 if Gt us && La 0 np us then some (Wi s us live, Uf s us us) else none
def Pat.mtch (np : Nat) (p : Pat) (s : St) (nid : Nat) : Option p.D :=
 (Z7 s nid p.fx).bind fun q => (u3 np (R0 p.cs) q.1).bind fun l => Xu (Z4 (some ()) p.rs l.2) p.cs l.1
section
variable {P : Program} {n B : Nat} {Iq : List Nat} {s : St} {g : Gh} {a : Act} {w : World}
theorem Lb {ls : List Lf} {i : Nat} (h : Vb ls i = true) : ls[i]? = some (.c (.slice none 0 0)) := by
 unfold Vb at h
 split at h
 ·rename_i l hl
  unfold Z6 at h
  split at h
  ·exact hl
  ·cases h
 ·cases h
theorem Z8 {s' : St} {g' : Gh} {v : Vl} {i : Nat} {l : Lf} {u : Value} (hv : Mz s' g' w v u) (hn : v.ls[i]? = some (.c (.slice none 0 0))) (hl : Ba s' g' w l (.slice none 0 0)) : Mz s' g' w (Va v i l) u := by
 cases v with
 | lf l0 =>
  unfold Va
  simp only
  split
  ·rename_i hi
   subst hi
   simp [Vl.ls] at hn
   subst hn
   obtain ⟨h1, h2⟩ := hv
   have h1' : u = .slice none 0 0 := h1
   subst h1'
   exact ⟨hl, rfl⟩
  ·exact hv
 | ag ls =>
  obtain ⟨cs, e1, e2⟩ := hv
  obtain ⟨v0, q1, q2, q3⟩ := e2.get hn
  have q2' : v0 = .slice none 0 0 := q2
  subst q2'
  refine ⟨cs, e1, ?_⟩
  have hset : cs.toList.set i (.slice none 0 0) = cs.toList := by
   apply List.ext_getElem?
   intro j
   by_cases q : i = j
   ·subst q
    rw [List.getElem?_set_self (List.getElem?_eq_some_iff.1 q1).1, q1]
   ·rw [List.getElem?_set_ne q]
  have := e2.set (j := i) (v := .slice none 0 0) hl rfl
  rw [hset] at this
  exact this
theorem Vc (s : St) (g : Gh) (w : World) (t : Ty) : Ba s g w (.sl t []) (.slice none 0 0) := ⟨none, 0, rfl, Nat.le_refl _, fun i x hx => by simp [X9] at hx⟩
theorem Te (h : Au n B Iq s g a w) {slot : Nat} {av : AV} (hv : H7 s g w av (a.tmps.getD slot undef)) : Au n B Iq (s.setCell slot av) g a w ∧ Go B Iq s g w (s.setCell slot av) g w := by
 have hS : ∀ b, Bl s g b → b < w.heap.size → Bl (s.setCell slot av) g b ∧ w.heap[b]? = w.heap[b]? := fun b hb _ => ⟨hb, rfl⟩
 have hI : ∀ id, Ae s g (s.setCell slot av) g id := fun id => Ae.same rfl rfl rfl
 refine ⟨h.step h.size h.defers (Nat.le_refl _) hS hI (fun i => ?_) (fun id => .inl ⟨rfl, rfl, rfl, fun _ _ => rfl⟩) h.inj h.lt rfl, ⟨Kp.refl B Iq w, hS, hI, rfl⟩⟩
 by_cases q : i = slot
 ·subst q
  right
  have : (s.setCell i av).cell i = av := by simp [St.setCell]
  rw [this]
  exact H7.step hS hI hv
 ·exact .inl ⟨by simp [St.setCell, Ad _ _ q], rfl⟩
theorem Me (h : Au n B Iq s g a w) {nid : Nat} (hf : s.res nid = .unborn) (e : TypeId) (t : Ty) :
  ∃ g', Go B Iq s g w (s.setRes nid (.row e t [])) g' w ∧ Au n B Iq (s.setRes nid (.row e t [])) g' a w ∧ Ba (s.setRes nid (.row e t [])) g' w (.row nid) (.slice none 0 0) := by
 have hS : ∀ b, Bl s g b → b < w.heap.size → Bl (s.setRes nid (.row e t [])) ⟨Hi g.blk nid none, Hi g.hdr nid (.slice none 0 0), g.av⟩ b ∧ w.heap[b]? = w.heap[b]? := by
  intro b hb _
  refine ⟨⟨hb.1, fun j hj hk => ?_⟩, rfl⟩
  by_cases q : j = nid
  ·subst q; simp at hk
  ·rw [Ab s _ q] at hj
   simp only [Ad _ _ q] at hk
   exact hb.2 j hj hk
 have hI : ∀ j, Ae s g (s.setRes nid (.row e t [])) ⟨Hi g.blk nid none, Hi g.hdr nid (.slice none 0 0), g.av⟩ j := by
  intro j
  by_cases q : j = nid
  ·subst q
   unfold Ae
   rw [hf]
   exact .inr trivial
  ·exact Ae.same (Ab s _ q) (by simp [Ad _ _ q]) (by simp [Ad _ _ q])
 refine ⟨_, ⟨Kp.refl B Iq w, hS, hI, rfl⟩, h.step h.size h.defers (Nat.le_refl _) hS hI (fun i => .inl ⟨rfl, rfl⟩) (fun j => ?_) (fun i j b hi hj => ?_) (fun i b hi => ?_) rfl, ?_⟩
 ·by_cases q : j = nid
  ·subst q
   right
   rw [Aa]
   refine ⟨[], ⟨by simp, .inl ⟨by simp, rfl⟩⟩, Sf _ _, by simp [Value.ownBlock]⟩
  ·left
   exact ⟨Ab s _ q, by simp [Ad _ _ q], by simp [Ad _ _ q], fun _ _ => rfl⟩
 ·by_cases q1 : i = nid
  ·simp [q1] at hi
  ·by_cases q2 : j = nid
   ·simp [q2] at hj
   ·simp only [Ad _ _ q1] at hi
    simp only [Ad _ _ q2] at hj
    exact h.inj i j b hi hj
 ·by_cases q1 : i = nid
  ·simp [q1] at hi
  ·simp only [Ad _ _ q1] at hi
   exact h.lt i b hi
 ·simp only [Ba, Aa, Ai]
theorem Kg (h : Au n B Iq s g a w) {id : Nat} {T : TypeId} {ls : List Lf} {i : Nat} {l0 l : Lf} (hr : s.res id = .box T ls) (hn : ls[i]? = some l0) (hl : ∀ u, Ba s g w l0 u → Ba s g w l u) :
  Au n B Iq (s.setRes id (.box T (ls.set i l))) g a w ∧ Go B Iq s g w (s.setRes id (.box T (ls.set i l))) g w := by
 have hS : ∀ b, Bl s g b → b < w.heap.size → Bl (s.setRes id (.box T (ls.set i l))) g b ∧ w.heap[b]? = w.heap[b]? := by
  intro b hb _
  refine ⟨⟨hb.1, fun j hj hk => ?_⟩, rfl⟩
  by_cases q : j = id
  ·subst q
   exact hb.2 j (by rw [hr]; rfl) hk
  ·rw [Ab s _ q] at hj
   exact hb.2 j hj hk
 have hI : ∀ j, Ae s g (s.setRes id (.box T (ls.set i l))) g j := by
  intro j
  by_cases q : j = id
  ·subst q
   unfold Ae
   rw [hr, Aa]
   exact .inr ⟨_, _, rfl, rfl⟩
  ·exact Ae.same (Ab s _ q) rfl rfl
 refine ⟨h.step h.size h.defers (Nat.le_refl _) hS hI (fun i => .inl ⟨rfl, rfl⟩) (fun j => ?_) h.inj h.lt rfl, ⟨Kp.refl B Iq w, hS, hI, rfl⟩⟩
 by_cases q : j = id
 ·subst q
  right
  rw [Aa]
  have r := h.res j
  rw [hr] at r
  obtain ⟨b, cs, h1, h2, h3⟩ := r
  refine ⟨b, cs, h1, h2, Ch.step hS hI ?_⟩
  obtain ⟨v0, q1, q2, q3⟩ := h3.get hn
  have hset : cs.toList.set i v0 = cs.toList := by
   apply List.ext_getElem?
   intro k
   by_cases q : i = k
   ·subst q
    rw [List.getElem?_set_self (List.getElem?_eq_some_iff.1 q1).1, q1]
   ·rw [List.getElem?_set_ne q]
  have := h3.set (j := i) (v := v0) (hl v0 q2) q3
  rw [hset] at this
  exact this
 ·exact .inl ⟨Ab s _ q, rfl, rfl, fun _ _ => rfl⟩
theorem Tf (h : Au n B Iq s g a w) {id : Nat} {T : TypeId} {ls : List Lf} {i : Nat} {l : Lf} (hr : s.res id = .box T ls) (hn : ls[i]? = some (.c (.slice none 0 0))) (hl : Ba s g w l (.slice none 0 0)) :
  Au n B Iq (s.setRes id (.box T (ls.set i l))) g a w ∧ Go B Iq s g w (s.setRes id (.box T (ls.set i l))) g w :=
 Kg h hr hn fun u hu => by
  have hu : u = .slice none 0 0 := hu
  subst hu
  exact hl
theorem Aav (h : Au n B Iq s g a w) {nid : Nat} {f : Fx} {s' : St} {nid' : Nat} (e : Xv s nid f = some (s', nid')) : ∃ g', Au n B Iq s' g' a w ∧ Go B Iq s g w s' g' w := by
 have fz : ∀ ls, some (s.frz ls, nid) = some (s', nid') → ∃ g', Au n B Iq s' g' a w ∧ Go B Iq s g w s' g' w := fun ls q => by
  cases q
  obtain ⟨g', k1, k2, _⟩ := Bs (ls := ls) h
  exact ⟨g', k1, k2⟩
 have stay : some (s, nid) = some (s', nid') → ∃ g', Au n B Iq s' g' a w ∧ Go B Iq s g w s' g' w := fun q => by cases q; exact ⟨g, h, Go.refl B Iq s g w⟩
 cases f with
 | sl slot i t =>
  simp only [Xv] at e
  split at e
  ·rename_i v hv
   split at e
   ·rename_i hn
    cases e
    have k := h.cell slot
    rw [hv] at k
    exact ⟨g, Te h (av := .vl (Va v i (.sl t []))) (Z8 (w := w) k (Lb hn) (Vc s g w t))⟩
   ·exact fz _ e
  ·exact stay e
 | row slot i e0 t =>
  simp only [Xv] at e
  split at e
  ·rename_i v hv
   split at e
   ·rename_i hn
    split at e
    ·rename_i hf
     cases e
     obtain ⟨g', k1, k2, k3⟩ := Me h hf e0 t
     have k := k2.cell slot
     have hc : (s.setRes nid (.row e0 t [])).cell slot = .vl v := hv
     rw [hc] at k
     obtain ⟨r1, r2⟩ := Te k2 (av := .vl (Va v i (.row nid))) (Z8 (w := w) k (Lb hn) k3)
     exact ⟨g', r1, k1.trans r2⟩
    ·cases e
   ·exact stay e
  ·exact stay e
 | boxSl slot i t =>
  simp only [Xv] at e
  split at e
  ·rename_i id hv
   split at e
   ·rename_i T ls hr
    split at e
    ·rename_i hn
     cases e
     exact ⟨g, Tf h hr (Lb hn) (Vc s g w t)⟩
    ·exact fz _ e
   ·exact stay e
  ·exact stay e
 | boxRow slot i e0 t =>
  simp only [Xv] at e
  split at e
  ·rename_i id hv
   split at e
   ·rename_i T ls hr
    split at e
    ·rename_i hn
     split at e
     ·rename_i hf
      cases e
      obtain ⟨g', k1, k2, k3⟩ := Me h hf e0 t
      have hne : id ≠ nid := by rintro rfl; rw [hf] at hr; cases hr
      have hr' : (s.setRes nid (.row e0 t [])).res id = .box T ls := by rw [Ab s _ hne]; exact hr
      obtain ⟨r1, r2⟩ := Tf k2 hr' (Lb hn) k3
      exact ⟨g', r1, k1.trans r2⟩
     ·cases e
    ·exact stay e
   ·exact stay e
  ·exact stay e
 | self slot i =>
  simp only [Xv] at e
  split at e
  ·rename_i id hv
   split at e
   ·rename_i T ls hr
    split at e
    ·rename_i hn
     cases e
     unfold u1 at hn
     split at hn
     ·rename_i hg
      refine ⟨g, Kg h hr hg fun u hu => ?_⟩
      simp only [Ba] at hu ⊢
      rw [hr]
      exact .inl hu
     ·rename_i j hg
      have hj := Nat.eq_of_beq_eq_true hn
      subst hj
      refine ⟨g, Kg h hr hg fun u hu => ?_⟩
      simp only [Ba] at hu ⊢
      rw [hr] at hu ⊢
      exact .inr hu
     ·cases hn
    ·exact stay e
   ·exact stay e
  ·exact stay e
 | last slot e1 t =>
  simp only [Xv] at e
  split at e
  ·rename_i id hv
   split at e
   ·rename_i e0 tt xs hr
    split at e
    ·rename_i ys _ _ hys hf hf1
     cases e
     unfold Aco at hys
     split at hys <;> cases hys
     rename_i htt
     subst htt
     obtain ⟨g1, k1, k2, k3⟩ := Me h hf1 e1 t
     have hid1 : id ≠ nid + 1 := fun q => by rw [q, hf1] at hr; cases hr
     have hid0 : id ≠ nid := fun q => by rw [q, hf] at hr; cases hr
     have hr1 : (s.setRes (nid + 1) (.row e1 t [])).res id = .row e0 (.sl t) xs := (Ab s _ hid1).trans hr
     have hf0 : (s.setRes (nid + 1) (.row e1 t [])).res nid = .unborn := (Ab s _ (by omega)).trans hf
     have r := k2.res id
     rw [hr1] at r
     obtain ⟨cs, q1, q2, q3⟩ := r
     have hc := k2.cell slot
     have hv1 : (s.setRes (nid + 1) (.row e1 t [])).cell slot = .vl (.lf (.row id)) := hv
     rw [hv1] at hc
     obtain ⟨hc1, hc2⟩ := hc
     simp only [Ba, hr1] at hc1
     have hcl : cs.length = List.length xs := by simpa [Ty.sz] using q1.1
     obtain ⟨m1, m2, m3, m4⟩ := k2.growR (o := some id) hf0 (v := g1.hdr id) (v' := g1.hdr id) (w' := w) (r := .last e0 t xs false (nid + 1)) (fun j q => by
      cases q
      exact ⟨by rw [hr1]; rfl, rfl, q3⟩) (fun q => by cases q) (World.grownBy.refl w _) (.inl rfl) (fun b hb => (k2.lt id b (q3.trans hb)).1) (fun hS _ => by
      refine ⟨cs, ?_, ?_, ?_, fun u hq => by cases hq⟩
      ·have e1 : (g1.mv (some id) nid (g1.hdr id)).hdr nid = g1.hdr id := by simp [Gh.mv]
       rw [e1]
       exact q1
      ·have e2 : cs.take (@List.length (List t.D) xs) = cs := List.take_of_length_le (Nat.le_of_eq hcl)
       have e3 := q2.keep hS
       rw [← e2] at e3
       exact e3
      ·simp [Gh.mv])
     have hcell : H7 ((Bw (s.setRes (nid + 1) (.row e1 t [])) (some id)).setRes nid (.last e0 t xs false (nid + 1))) (g1.mv (some id) nid (g1.hdr id)) w (.vl (.lf (.row nid))) (a.tmps.getD slot undef) := by
      refine ⟨?_, hc2⟩
      simp only [Ba, Aa]
      rw [hc1]
      simp [Gh.mv]
     obtain ⟨c1, c2⟩ := Te m3 (slot := slot) hcell
     exact ⟨_, c1, k1.trans (Go.trans ⟨m4, m1, m2, rfl⟩ c2)⟩
    ·cases e
   ·exact stay e
  ·exact stay e
theorem Xw : ∀ {fx : List Fx} {s : St} {g : Gh} {nid : Nat} {s' : St} {nid' : Nat}, Au n B Iq s g a w → Z7 s nid fx = some (s', nid') → ∃ g', Au n B Iq s' g' a w ∧ Go B Iq s g w s' g' w
 | [], s, g, nid, s', nid', h, e => by cases e; exact ⟨g, h, Go.refl B Iq s g w⟩
 | f :: r, s, g, nid, s', nid', h, e => by
  simp only [Z7] at e
  obtain ⟨p, e1, e2⟩ := Option.bind_eq_some_iff.1 e
  obtain ⟨g1, k1, k2⟩ := Aav h (s' := p.1) (nid' := p.2) e1
  obtain ⟨g2, k3, k4⟩ := Xw k1 e2
  exact ⟨g2, k3, k2.trans k4⟩
theorem Aaw (h : Au n B Iq s g a w) {np nid : Nat} {p : Pat} {d : p.D} (e : p.mtch np s nid = some d) :
  ∃ s1 g1 g', Go B Iq s g w s1 g1 w ∧ Au n B Iq (p.st d) g' a w ∧ g'.av = g1.av ∧ ∀ id, id < np → ((p.st d).res id = .unborn → s1.res id = .unborn) ∧ (∀ T ls, (p.st d).res id = .box T ls → (∃ T' ls', s1.res id = .box T' ls') ∧ g'.blk id = g1.blk id) ∧ (∀ e, ∀ t : Ty, ∀ xs : List t.D, (p.st d).res id = .row e t xs → (∃ e', ∃ xs' : List t.D, s1.res id = .row e' t xs') ∧ g'.blk id = g1.blk id ∧ g'.hdr id = g1.hdr id) := by
 unfold Pat.mtch at e
 obtain ⟨q, e1, e⟩ := Option.bind_eq_some_iff.1 e
 obtain ⟨l, e2, e⟩ := Option.bind_eq_some_iff.1 e
 obtain ⟨y, e3, e4⟩ := U8 e
 obtain ⟨z, e5, e6⟩ := U9 e3
 obtain ⟨g1, k1, k2⟩ := Xw h (s' := q.1) (nid' := q.2) e1
 have hst : p.st d = Xs l.1 l.2 := by
  unfold Pat.st
  have e4' : Hs p.cs (X := Z3 p.rs Unit) d = (l.1, y) := e4
  have a2 : (Hs p.cs (X := Z3 p.rs Unit) d).2 = y := congrArg Prod.snd e4'
  have a3 : Jm p.rs (Hs p.cs (X := Z3 p.rs Unit) d).2 = (l.2, z) := (congrArg (Jm p.rs) a2).trans e6
  exact congr (congrArg Xs (congrArg Prod.fst e4')) (congrArg Prod.fst a3)
 have hc : canon np (R0 p.cs) q.1 = some (Xs l.1 l.2, (Ry q.1 np (R0 p.cs)).length) := by
  unfold u3 at e2
  unfold canon
  dsimp only at e2 ⊢
  split at e2
  ·rename_i hq
   rw [if_pos hq]
   cases e2
   rfl
  ·cases e2
 obtain ⟨g', r1, r2, r3⟩ := s5 k1 hc
 rw [hst]
 exact ⟨q.1, g1, g', k2, r1, r2, r3⟩
end
end Go.Proofs.Ytkfoebbjncngjaa.R

