/- A region whose order is drawn: every order leads to the same. No condition. -/
import Derived.Test.YtkfoebbjncngjaaRRegion
namespace Go.Proofs.Ytkfoebbjncngjaa.R
open Go Go.RowKit
set_option linter.unusedVariables false
set_option linter.unusedSimpArgs false
structure Ent where
 o : Oper
 nid : Nat
 run : Bool
 ids : List Nat
 av : AV
 res : Nat → Res
 wr : List Nat
def Ent.quiet (P : Program) (e : Ent) : Bool := !e.run || W1 P e.o
def Ent.app (P : Program) (n : Nat) (e : Ent) (s : St) : St := St.put n (if e.quiet P then s else ⟨s.cell, fun id => if Em e.wr id then e.res id else s.res id⟩) e.o.dst e.av
def j4 (ops : Array Oper) (o : Oper) : List Nat := match o.guard with
 | some (j, _) => match ops[j]? with
  | some oj => match oj.dst with
   | some d => [d]
   | none => []
  | none => []
 | none => []
def Ent.looks (ops : Array Oper) (e : Ent) : List Nat := (if e.run then Bn e.o else []) ++ j4 ops e.o
def Aec : List Md → Bool
 | [] => true
 | .rd _ :: r => Aec r
 | _ => false
def wrO (T : Tb) (v : St) (nid : Nat) (o : Oper) (m : List Nat) : List Nat := match o.op with
 | .store _ x _ => (match v.leaf x with
  | some (.ptr id _) => if Em m id then [id] else m
  | _ => m)
 | .call _ => (match F7 o with
  | some (f, _) => (match T.sd f with
   | some sd => if Aec sd.sg.ps && (Do sd.sg.rs && (F5 sd.sg.ps && Nat.ble (En sd.sg.rs) 4)) then F3 nid else m
   | none => m)
  | none => m)
 | _ => m
def Mc (T : Tb) (s : St) (nid : Nat) (o : Oper) (av : AV) (v : St) : Ent := ⟨o, nid, true, Ig s o ++ F3 nid, av, v.res, wrO T (s.view (Bn o) (Ig s o)) nid o (Ig s o ++ F3 nid)⟩
def P7 (nid : Nat) (o : Oper) : Ent := ⟨o, nid, false, [], .tp [], fun _ => .unborn, []⟩
def Acy (P : Program) (sigs : Tb) (ops : Array Oper) (s : St) (e : Ent) : Prop :=
 (Fl s ops e.o = some true ∧ ∃ av v, Nw P sigs s e.nid e.o = some (av, v) ∧ e = Mc sigs s e.nid e.o av v) ∨ (Fl s ops e.o = some false ∧ e = P7 e.nid e.o)
def Ot (P : Program) (sigs : Tb) (ops : Array Oper) (n : Nat) : List Ent → St → Prop
 | [], _ => True
 | e :: r, s => Acy P sigs ops s e ∧ Ot P sigs ops n r (e.app P n s)
def K4 (P : Program) (n : Nat) (D : Nat → Bool) : Nat → List Ent → St → St
 | _, [], s => s
 | i, e :: r, s => K4 P n D (i + 1) r (if D i then e.app P n s else s)
def Zs (o : Oper) (l : List Nat) : Bool := match o.dst with
 | some d => Em l d
 | none => false
def Abs (o o' : Oper) : Bool := match o.dst, o'.dst with
 | some d, some d' => Nat.beq d d'
 | _, _ => false
def Vb (l m : List Nat) : Bool := match l with
 | [] => false
 | i :: r => Em m i || Vb r m
def Ga (P : Program) (ops : Array Oper) (e f : Ent) : Bool :=
 !Zs e.o (f.looks ops) && !Zs f.o (e.looks ops) && !Abs e.o f.o && ((e.quiet P || !Vb e.wr f.ids) && (f.quiet P || !Vb f.wr e.ids) && (e.quiet P || f.quiet P || !Vb e.wr f.wr))
def Jb (o : Oper) : List Nat := (o.after.toList.filter fun e => Region.binds .any e).map (·.on)
def Su (ancs : List Nat) : List Nat → Nat
 | [] => 0
 | p :: r => ((1 <<< p) ||| (ancs.getD p 0)) ||| Su ancs r
def Vc (P : Program) (ops : Array Oper) (A : Nat) (e : Ent) : Nat → List Ent → Bool
 | _, [] => true
 | k, d :: r => (A.testBit k || Ga P ops d e) && Vc P ops A e (k + 1) r
def j5 (i : Nat) : List Nat → Bool
 | [] => true
 | p :: r => Nat.blt p i && j5 i r
def Acz (P : Program) (ops : Array Oper) : Nat → List Ent → List Nat → List Ent → Bool
 | _, _, _, [] => true
 | i, done, ancs, e :: r => j5 i (Jb e.o) && (Vc P ops (Su ancs (Jb e.o)) e 0 done && Acz P ops (i + 1) (done ++ [e]) (ancs ++ [Su ancs (Jb e.o)]) r)
section
variable {P : Program} {n B : Nat} {Iq : List Nat} {sigs : Tb} {ops : Array Oper}
theorem Rj {l m : List Nat} : Vb l m = false ↔ ∀ i ∈ l, i ∉ m := by
 induction l with
 | nil => simp [Vb]
 | cons j r ih =>
  simp only [Vb, Bool.or_eq_false_iff, ih, List.forall_mem_cons]
  constructor
  ·rintro ⟨h1, h2⟩
   exact ⟨fun q => (by rw [A7.2 q] at h1; cases h1), h2⟩
  ·rintro ⟨h1, h2⟩
   refine ⟨?_, h2⟩
   cases hq : Em m j
   ·rfl
   ·exact absurd (A7.1 hq) h1
theorem Xz {i : Nat} {l : List Nat} : j5 i l = true ↔ ∀ p ∈ l, p < i := by
 induction l with
 | nil => simp [j5]
 | cons j r ih => simp [j5, ih, Nat.blt_eq]
def X0 (P : Program) (ops : Array Oper) (e' e : Ent) : Prop := (∀ d, e'.o.dst = some d → d ∉ e.looks ops) ∧ (e'.quiet P = false → ∀ id ∈ e'.wr, id ∉ e.ids)
theorem P8 {o : Oper} {l : List Nat} (h : Zs o l = false) : ∀ d, o.dst = some d → d ∉ l := by
 intro d hd q
 unfold Zs at h
 rw [hd] at h
 simp only at h
 rw [A7.2 q] at h
 cases h
theorem P9 {e f : Ent} (h : Ga P ops e f = true) : X0 P ops e f ∧ X0 P ops f e := by
 simp only [Ga, Bool.and_eq_true, Bool.not_eq_true', Bool.or_eq_true] at h
 obtain ⟨⟨⟨h1, h2⟩, h3⟩, ⟨h4, h5⟩, _⟩ := h
 refine ⟨⟨P8 h1, fun q id hid => ?_⟩, ⟨P8 h2, fun q id hid => ?_⟩⟩
 ·rcases h4 with h4 | h4
  ·rw [h4] at q; cases q
  ·exact Rj.1 h4 id hid
 ·rcases h5 with h5 | h5
  ·rw [h5] at q; cases q
  ·exact Rj.1 h5 id hid
theorem Aed (s : St) (d : Option Tmp) (av : AV) (x : Nat) : (s.put n d av).cell x = if (d = some x ∧ Nat.blt x n = true) then av else s.cell x := by
 cases d with
 | none => simp [St.put]
 | some d =>
  unfold St.put
  simp only
  by_cases q : x = d
  ·subst q
   by_cases hn : Nat.blt x n = true
   ·simp [hn, St.setCell]
   ·simp [hn]
  ·have : ¬ (some d = some x ∧ Nat.blt x n = true) := fun h => q (Option.some.inj h.1).symm
   rw [if_neg this]
   split
   ·simp [St.setCell, Ai _ _ q]
   ·rfl
theorem Ih (e : Ent) (s : St) (x : Nat) : (e.app P n s).cell x = if (e.o.dst = some x ∧ Nat.blt x n = true) then e.av else s.cell x := by
 unfold Ent.app
 rw [Aed]
 split
 ·rfl
 ·split <;> rfl
theorem K5 (e : Ent) (s : St) (id : Nat) : (e.app P n s).res id = if e.quiet P = false ∧ id ∈ e.wr then e.res id else s.res id := by
 unfold Ent.app
 rw [T6]
 by_cases q : e.quiet P = true
 ·simp [q]
 ·have q : e.quiet P = false := by simpa using q
  simp only [q, Bool.false_eq_true, if_false, true_and]
  by_cases hm : id ∈ e.wr
  ·simp [hm, A7.2 hm]
  ·have : Em e.wr id = false := by
    cases hq : Em e.wr id
    ·rfl
    ·exact absurd (A7.1 hq) hm
   simp [hm, this]
theorem St.ext' {s t : St} (h1 : ∀ i, s.cell i = t.cell i) (h2 : ∀ id, s.res id = t.res id) : s = t := by
 obtain ⟨c, r⟩ := s
 obtain ⟨c', r'⟩ := t
 congr
 ·exact funext h1
 ·exact funext h2
theorem Aee {e f : Ent} (h : Ga P ops e f = true) (s : St) : f.app P n (e.app P n s) = e.app P n (f.app P n s) := by
 have hd : ∀ d, e.o.dst = some d → f.o.dst ≠ some d := by
  intro d h1 h2
  simp only [Ga, Bool.and_eq_true, Bool.not_eq_true'] at h
  have := h.1.2
  unfold Abs at this
  rw [h1, h2] at this
  simp at this
 have hr : ∀ id, e.quiet P = false → id ∈ e.wr → ¬ (f.quiet P = false ∧ id ∈ f.wr) := fun id q1 q2 q3 => by
  simp only [Ga, Bool.and_eq_true, Bool.not_eq_true', Bool.or_eq_true] at h
  rcases h.2.2 with (h4 | h4) | h4
  ·rw [h4] at q1; cases q1
  ·rw [h4] at q3; cases q3.1
  ·exact Rj.1 h4 id q2 q3.2
 refine St.ext' (fun i => ?_) (fun id => ?_)
 ·rw [Ih, Ih, Ih, Ih]
  by_cases h1 : e.o.dst = some i ∧ Nat.blt i n = true
  ·have h2 : ¬ (f.o.dst = some i ∧ Nat.blt i n = true) := fun q => hd i h1.1 q.1
   rw [if_neg h2, if_pos h1, if_pos h1]
  ·rw [if_neg h1, if_neg h1]
 ·rw [K5, K5, K5, K5]
  by_cases h1 : e.quiet P = false ∧ id ∈ e.wr
  ·rw [if_neg (hr id h1.1 h1.2), if_pos h1, if_pos h1]
  ·rw [if_neg h1, if_neg h1]
def Gq (s t : St) (L I : List Nat) : Prop := (∀ x ∈ L, s.cell x = t.cell x) ∧ ∀ id ∈ I, s.res id = t.res id
theorem Gq.app {s t : St} {L I : List Nat} (h : Gq s t L I) (e : Ent) : Gq (e.app P n s) (e.app P n t) L I := by
 refine ⟨fun x hx => ?_, fun id hid => ?_⟩
 ·rw [Ih, Ih, h.1 x hx]
 ·rw [K5, K5, h.2 id hid]
theorem X0.agree {e' e : Ent} (h : X0 P ops e' e) (s : St) : Gq (e'.app P n s) s (e.looks ops) e.ids := by
 refine ⟨fun x hx => ?_, fun id hid => ?_⟩
 ·rw [Ih, if_neg (fun q => h.1 x q.1 hx)]
 ·rw [K5, if_neg (fun q => h.2 q.1 id q.2 hid)]
theorem Gq.trans {s t u : St} {L I : List Nat} (h : Gq s t L I) (k : Gq t u L I) : Gq s u L I := ⟨fun x hx => (h.1 x hx).trans (k.1 x hx), fun x hx => (h.2 x hx).trans (k.2 x hx)⟩
theorem Gq.symm {s t : St} {L I : List Nat} (h : Gq s t L I) : Gq t s L I := ⟨fun x hx => (h.1 x hx).symm, fun x hx => (h.2 x hx).symm⟩
theorem Li {s t : St} : ∀ {sl : List Nat}, (∀ x ∈ sl, s.cell x = t.cell x) → Df s sl = Df t sl
 | [], _ => rfl
 | i :: r, h => by
  simp only [Df]
  rw [h i (by simp), Li (fun x hx => h x (by simp [hx]))]
theorem Hg {s t : St} : ∀ {l : List Nat}, (∀ x ∈ l, s.res x = t.res x) → D5 s l = D5 t l
 | [], _ => rfl
 | i :: r, h => by
  simp only [D5]
  rw [h i (by simp), Hg (fun x hx => h x (by simp [hx]))]
theorem Sv {s t : St} {sl : List Nat} (h1 : ∀ x ∈ sl, s.cell x = t.cell x) (h2 : ∀ id ∈ P1 s sl, s.res id = t.res id) : P1 t sl = P1 s sl := by
 unfold P1 at h2 ⊢
 dsimp only at h2 ⊢
 rw [← Li h1]
 have e1 : D5 t (Df s sl) = D5 s (Df s sl) := (Hg (fun x hx => h2 x (List.mem_append_left _ (List.mem_append_left _ hx)))).symm
 rw [e1]
 have e2 : D5 t (Df s sl ++ D5 s (Df s sl)) = D5 s (Df s sl ++ D5 s (Df s sl)) := (Hg (fun x hx => h2 x (List.mem_append_left _ hx))).symm
 rw [e2]
theorem K6 {s t : St} : ∀ {l : List Nat}, (∀ x ∈ l, s.res x = t.res x) → Oo s l = Oo t l
 | [], _ => rfl
 | i :: r, h => by
  simp only [Oo]
  rw [h i (by simp), K6 (fun x hx => h x (by simp [hx]))]
theorem Vd {s t : St} {o : Oper} (h1 : ∀ x ∈ Bn o, s.cell x = t.cell x) (h2 : ∀ id ∈ Ig s o, s.res id = t.res id) : Ig t o = Ig s o := by
 unfold Ig at h2 ⊢
 by_cases hm : Wy o = true
 ·rw [if_pos hm, if_pos hm]
 rw [if_neg hm] at h2
 rw [if_neg hm, if_neg hm]
 split
 ·rename_i hq
  rw [if_pos hq] at h2
  exact Sv h1 h2
 ·rename_i hq
  rw [if_neg hq] at h2
  have h3 : ∀ id ∈ P1 s (Bn o), s.res id = t.res id := fun id q => h2 id (List.mem_append_left _ q)
  rw [Sv h1 h3, ← K6 h3]
theorem W2 {s t : St} {o : Oper} {m : List Nat} (h : ∀ id ∈ m, s.res id = t.res id) : H3 o t m = H3 o s m := by
 unfold H3
 rw [Hg h, K6 h]
theorem Qa {s t : St} : ∀ {k nid : Nat}, (∀ id, nid ≤ id → id < nid + k → s.res id = t.res id) → Gt t nid k = Gt s nid k
 | 0, _, _ => rfl
 | k + 1, nid, h => by
  simp only [Gt]
  rw [h nid (Nat.le_refl _) (by omega), Qa (fun id q1 q2 => h id (by omega) (by omega))]
theorem Ve {s t : St} {sl ids : List Nat} (h1 : ∀ x ∈ sl, s.cell x = t.cell x) (h2 : ∀ id ∈ ids, s.res id = t.res id) : t.view sl ids = s.view sl ids := by
 refine St.ext' (fun i => ?_) (fun id => ?_)
 ·show (if Em sl i then t.cell i else .dead) = (if Em sl i then s.cell i else .dead)
  split
  ·rename_i q; rw [h1 i (A7.1 q)]
  ·rfl
 ·show (if Em ids id then t.res id else .unborn) = (if Em ids id then s.res id else .unborn)
  split
  ·rename_i q; rw [h2 id (A7.1 q)]
  ·rfl
theorem j6 {s t : St} {nid : Nat} {o : Oper} (h1 : ∀ x ∈ Bn o, s.cell x = t.cell x) (h2 : ∀ id ∈ Ig s o ++ F3 nid, s.res id = t.res id) : Nw P sigs t nid o = Nw P sigs s nid o := by
 have h3 : ∀ id ∈ Ig s o, s.res id = t.res id := fun id q => h2 id (List.mem_append_left _ q)
 unfold Nw
 dsimp only
 rw [Vd h1 h3, Ve h1 h3, ← W2 h3, Qa (s := s) (t := t) (fun id q1 q2 => h2 id (List.mem_append_right _ (by
  simp only [F3, List.mem_cons, List.not_mem_nil, or_false, U8] at q2 ⊢
  omega)))]
theorem Aaq {s t : St} {o : Oper} {j : Nat} {want : Bool} (hg : o.guard = some (j, want)) (h : ∀ x ∈ j4 ops o, s.cell x = t.cell x) : Aap t ops j = Aap s ops j := by
 unfold j4 at h
 rw [hg] at h
 simp only at h
 unfold Aap
 split
 ·rename_i oj hoj
  rw [hoj] at h
  simp only at h
  split
  ·rename_i d hd
   rw [hd] at h
   simp only [List.mem_cons, List.not_mem_nil, or_false, forall_eq] at h
   rw [h]
  ·rfl
 ·rfl
theorem Ny {s t : St} {o : Oper} (h : ∀ x ∈ j4 ops o, s.cell x = t.cell x) : Fl t ops o = Fl s ops o := by
 unfold Fl
 split
 ·rfl
 ·rename_i j want hg
  rw [Aaq hg h]
theorem Acy.local {s t : St} {e : Ent} (h : Acy P sigs ops s e) (ha : Gq s t (e.looks ops) e.ids) : Acy P sigs ops t e := by
 have hg : ∀ x ∈ j4 ops e.o, s.cell x = t.cell x := fun x hx => ha.1 x (List.mem_append_right _ hx)
 rcases h with ⟨h1, av, v, h2, h3⟩ | ⟨h1, h2⟩
 ·left
  have hrun : e.run = true := by rw [h3]; rfl
  have hids : e.ids = Ig s e.o ++ F3 e.nid := by rw [h3]; rfl
  have c1 : ∀ x ∈ Bn e.o, s.cell x = t.cell x := fun x hx => ha.1 x (List.mem_append_left _ (by rw [hrun]; exact hx))
  have c2 : ∀ id ∈ Ig s e.o ++ F3 e.nid, s.res id = t.res id := fun id hid => ha.2 id (by rw [hids]; exact hid)
  refine ⟨by rw [Ny hg]; exact h1, av, v, by rw [j6 c1 c2]; exact h2, ?_⟩
  have : Mc sigs t e.nid e.o av v = Mc sigs s e.nid e.o av v := by
   unfold Mc
   rw [Vd c1 (fun id hid => c2 id (List.mem_append_left _ hid)), Ve c1 (fun id hid => c2 id (List.mem_append_left _ hid))]
  rw [this]
  exact h3
 ·exact .inr ⟨by rw [Ny hg]; exact h1, h2⟩
theorem Vf {D : Nat → Bool} {e : Ent} : ∀ {tr : List Ent} {k : Nat} {s : St}, (∀ j f, tr[j]? = some f → D (k + j) = true → Ga P ops e f = true) → K4 P n D k tr (e.app P n s) = e.app P n (K4 P n D k tr s)
 | [], _, _, _ => rfl
 | f :: r, k, s, h => by
  simp only [K4]
  have h' : ∀ j f', r[j]? = some f' → D (k + 1 + j) = true → Ga P ops e f' = true := fun j f' h1 h2 => h (j + 1) f' (by simpa using h1) (by rw [← h2]; congr 1; omega)
  split
  ·rename_i hD
   rw [Aee (h 0 f rfl hD), Vf h']
  ·exact Vf h'
theorem Rk {D D' : Nat → Bool} : ∀ {tr : List Ent} {k : Nat} {s : St}, (∀ j, j < tr.length → D (k + j) = D' (k + j)) → K4 P n D k tr s = K4 P n D' k tr s
 | [], _, _, _ => rfl
 | f :: r, k, s, h => by
  simp only [K4]
  have h0 : D k = D' k := h 0 (by simp)
  rw [h0]
  exact Rk (fun j hj => by have := h (j + 1) (by simpa using hj); rw [show k + 1 + j = k + (j + 1) by omega]; exact this)
theorem Abt {D D' : Nat → Bool} {e : Ent} : ∀ {tr : List Ent} {k i : Nat} {s : St}, tr[i]? = some e → D (k + i) = false → D' (k + i) = true → (∀ j, j ≠ i → D' (k + j) = D (k + j)) →
  (∀ j f, i < j → tr[j]? = some f → D (k + j) = true → Ga P ops e f = true) → K4 P n D' k tr s = e.app P n (K4 P n D k tr s)
 | [], _, _, _, h, _, _, _, _ => by simp at h
 | f :: r, k, 0, s, h, h1, h2, h3, h4 => by
  simp at h
  subst h
  simp only [K4]
  have h1' : D k = false := h1
  have h2' : D' k = true := h2
  rw [h1', h2']
  simp only [if_true, Bool.false_eq_true, if_false]
  rw [Rk (D := D') (D' := D) (fun j hj => by have := h3 (j + 1) (by omega); rw [show k + 1 + j = k + (j + 1) by omega]; exact this)]
  exact Vf (fun j f' q1 q2 => h4 (j + 1) f' (by omega) (by simpa using q1) (by rw [← q2]; congr 1; omega))
 | f :: r, k, i + 1, s, h, h1, h2, h3, h4 => by
  simp only [K4]
  have h0 : D' k = D k := h3 0 (by omega)
  rw [h0]
  refine Abt (i := i) (by simpa using h) (by rw [← h1]; congr 1; omega) (by rw [← h2]; congr 1; omega) (fun j hj => ?_) (fun j f' q1 q2 q3 => ?_)
  ·have := h3 (j + 1) (by omega)
   rw [show k + 1 + j = k + (j + 1) by omega]
   exact this
  ·exact h4 (j + 1) f' (by omega) (by simpa using q2) (by rw [← q3]; congr 1; omega)
theorem Rl {D : Nat → Bool} {e : Ent} : ∀ {tr : List Ent} {k i : Nat} {s t : St}, Gq s t (e.looks ops) e.ids →
  (∀ j f, tr[j]? = some f → j < i → D (k + j) = false → X0 P ops f e) → (∀ j f, tr[j]? = some f → i ≤ j → D (k + j) = true → X0 P ops f e) →
  Gq (K4 P n D k tr s) (K4 P n (fun _ => true) k (tr.take i) t) (e.looks ops) e.ids
 | [], k, i, s, t, h, _, _ => by simpa [K4] using h
 | f :: r, k, 0, s, t, h, h1, h2 => by
  simp only [K4, List.take_zero]
  have ih : ∀ s', Gq s' t (e.looks ops) e.ids → Gq (K4 P n D (k + 1) r s') t (e.looks ops) e.ids := fun s' q => by
   have := Rl (D := D) (tr := r) (k := k + 1) (i := 0) q (fun j f' q1 q2 => by omega) (fun j f' q1 _ q3 => h2 (j + 1) f' (by simpa using q1) (by omega) (by rw [← q3]; congr 1; omega))
   simpa [K4] using this
  split
  ·rename_i hD
   exact ih _ (((h2 0 f rfl (by omega) hD).agree s).trans h)
  ·exact ih _ h
 | f :: r, k, i + 1, s, t, h, h1, h2 => by
  simp only [K4, List.take_succ_cons, if_true]
  have ih : ∀ s' t', Gq s' t' (e.looks ops) e.ids → Gq (K4 P n D (k + 1) r s') (K4 P n (fun _ => true) (k + 1) (r.take i) t') (e.looks ops) e.ids := fun s' t' q =>
   Rl (D := D) q (fun j f' q1 q2 q3 => h1 (j + 1) f' (by simpa using q1) (by omega) (by rw [← q3]; congr 1; omega)) (fun j f' q1 q2 q3 => h2 (j + 1) f' (by simpa using q1) (by omega) (by rw [← q3]; congr 1; omega))
  split
  ·exact ih _ _ (h.app f)
  ·rename_i hD
   have hD : D k = false := by simpa using hD
   exact ih _ _ (h.trans ((h1 0 f rfl (by omega) hD).agree t).symm)
theorem Ot.get : ∀ {tr : List Ent} {k i : Nat} {s : St} {e : Ent}, Ot P sigs ops n tr s → tr[i]? = some e → Acy P sigs ops (K4 P n (fun _ => true) k (tr.take i) s) e
 | [], _, _, _, _, _, h => by simp at h
 | f :: r, k, 0, s, e, h, hi => by
  simp at hi
  subst hi
  simpa [K4] using h.1
 | f :: r, k, i + 1, s, e, h, hi => by
  simp only [List.take_succ_cons, K4, if_true]
  exact Ot.get h.2 (by simpa using hi)
def Aef (tr : List Ent) (D : Nat → Prop) : Prop := ∀ k e, tr[k]? = some e → D k → ∀ p ∈ Jb e.o, D p
def Bef (tr : List Ent) (i : Nat) (e : Ent) : Prop := ∀ D, Aef tr D → (∀ p ∈ Jb e.o, D p) → D i
theorem X5 {ancs : List Nat} {i : Nat} : ∀ {ps : List Nat}, (Su ancs ps).testBit i = true → ∃ p ∈ ps, p = i ∨ (ancs.getD p 0).testBit i = true
 | [], h => by simp [Su] at h
 | p :: r, h => by
  simp only [Su, Nat.testBit_or, Bool.or_eq_true] at h
  rcases h with (h | h) | h
  ·refine ⟨p, by simp, .inl ?_⟩
   rw [Nat.one_shiftLeft, Nat.testBit_two_pow] at h
   simpa using h
  ·exact ⟨p, by simp, .inr h⟩
  ·obtain ⟨q, h1, h2⟩ := X5 h
   exact ⟨q, by simp [h1], h2⟩
theorem Vg {A : Nat} {e : Ent} : ∀ {l : List Ent} {k : Nat}, Vc P ops A e k l = true → ∀ j f, l[j]? = some f → A.testBit (k + j) = true ∨ Ga P ops f e = true
 | [], _, _, j, f, hj => by simp at hj
 | d :: r, k, h, 0, f, hj => by
  simp at hj
  subst hj
  simp only [Vc, Bool.and_eq_true, Bool.or_eq_true] at h
  exact h.1
 | d :: r, k, h, j + 1, f, hj => by
  simp only [Vc, Bool.and_eq_true, Bool.or_eq_true] at h
  have := Vg h.2 j f (by simpa using hj)
  rw [show k + (j + 1) = k + 1 + j by omega]
  exact this
theorem j7 {tr : List Ent} : ∀ {rest done : List Ent} {ancs : List Nat}, tr = done ++ rest → ancs.length = done.length → Acz P ops done.length done ancs rest = true →
  (∀ k e x, done[k]? = some e → (ancs.getD k 0).testBit x = true → Bef tr x e) →
  (∀ i j e f, tr[i]? = some e → tr[j]? = some f → i < j → j < done.length → Bef tr i f ∨ Ga P ops e f = true) →
  (∀ j f, tr[j]? = some f → j < done.length → ∀ p ∈ Jb f.o, p < j) →
  (∀ i j e f, tr[i]? = some e → tr[j]? = some f → i < j → Bef tr i f ∨ Ga P ops e f = true) ∧ (∀ j f, tr[j]? = some f → ∀ p ∈ Jb f.o, p < j)
 | [], done, ancs, h, _, _, _, h3, h4 => by
  subst h
  rw [List.append_nil]
  refine ⟨fun i j e f h1 h2 h5 => ?_, fun j f h1 => ?_⟩
  ·have := h3 i j e f (by rw [List.append_nil]; exact h1) (by rw [List.append_nil]; exact h2) h5 (List.getElem?_eq_some_iff.1 h2).1
   rwa [List.append_nil] at this
  ·exact h4 j f (by rw [List.append_nil]; exact h1) (List.getElem?_eq_some_iff.1 h1).1
 | e :: rest, done, ancs, h, hl, hok, h2, h3, h4 => by
  simp only [Acz, Bool.and_eq_true] at hok
  obtain ⟨k1, k2, k3⟩ := hok
  have hget : tr[done.length]? = some e := by rw [h]; simp
  have hbef : ∀ x, (Su ancs (Jb e.o)).testBit x = true → Bef tr x e := by
   intro x hx D hD hp
   obtain ⟨p, q1, q2⟩ := X5 hx
   rcases q2 with rfl | q2
   ·exact hp _ q1
   ·have hpl : p < done.length := Xz.1 k1 p q1
    have hpe : done[p]? = some done[p] := List.getElem?_eq_getElem hpl
    have hpt : tr[p]? = some done[p] := by rw [h, List.getElem?_append_left hpl]; exact hpe
    exact h2 p _ x hpe q2 D hD (hD p _ hpt (hp p q1))
  have hlen : (done ++ [e]).length = done.length + 1 := by simp
  refine j7 (rest := rest) (done := done ++ [e]) (ancs := ancs ++ [Su ancs (Jb e.o)]) (by rw [h]; simp) (by simp [hl]) (by rw [hlen]; exact k3) ?_ ?_ ?_
  ·intro k f x hk hx
   by_cases q : k < done.length
   ·rw [List.getElem?_append_left q] at hk
    refine h2 k f x hk ?_
    rw [List.getD_eq_getElem?_getD, List.getElem?_append_left (by omega), ← List.getD_eq_getElem?_getD] at hx
    exact hx
   ·have hkl := (List.getElem?_eq_some_iff.1 hk).1
    have hke : k = done.length := by simp at hkl; omega
    subst hke
    simp at hk
    subst hk
    rw [List.getD_eq_getElem?_getD, ← hl] at hx
    simp at hx
    exact hbef x hx
  ·intro i j f f' q1 q2 q3 q4
   by_cases q : j < done.length
   ·exact h3 i j f f' q1 q2 q3 q
   ·have : j = done.length := by simp at q4; omega
    subst this
    rw [hget] at q2
    cases q2
    have hi : done[i]? = some f := by rw [h, List.getElem?_append_left q3] at q1; exact q1
    rcases Vg k2 i f hi with q5 | q5
    ·exact .inl (hbef i (by simpa using q5))
    ·exact .inr q5
  ·intro j f q1 q2
   by_cases q : j < done.length
   ·exact h4 j f q1 q
   ·have : j = done.length := by simp at q2; omega
    subst this
    rw [hget] at q1
    cases q1
    exact Xz.1 k1
end
end Go.Proofs.Ytkfoebbjncngjaa.R

