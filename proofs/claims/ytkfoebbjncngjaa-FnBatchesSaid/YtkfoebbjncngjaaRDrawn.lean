/- A region whose order is drawn: every order leads to the same. No condition. -/
import Derived.Test.YtkfoebbjncngjaaRRegion
namespace Go.Proofs.Ytkfoebbjncngjaa.R
open Go Go.RowKit
set_option linter.unusedVariables false
set_option linter.unusedSimpArgs false
structure Ent where
 o : Oper
 nid : Nat
 run : Bool
 ids : List Nat
 av : AV
 res : Nat → Res
 wr : List Nat
def Ent.quiet (P : Program) (e : Ent) : Bool := !e.run || R4 P e.o
def Ent.app (P : Program) (n : Nat) (e : Ent) (s : St) : St := St.put n (if e.quiet P then s else ⟨s.cell, fun id => if C4 e.wr id then e.res id else s.res id⟩) e.o.dst e.av
def Vk (ops : Array Oper) (o : Oper) : List Nat := match o.guard with
 | some (j, _) => match ops[j]? with
  | some oj => match oj.dst with
   | some d => [d]
   | none => []
  | none => []
 | none => []
def Ent.looks (ops : Array Oper) (e : Ent) : List Nat := (if e.run then Bb e.o else []) ++ Vk ops e.o
def b6 : List Md → Bool
 | [] => true
 | .rd _ :: r => b6 r
 | _ => false
def wrO (T : Tb) (v : St) (nid : Nat) (o : Oper) (m : List Nat) : List Nat := match o.op with
 | .store _ x _ => (match v.leaf x with
  | some (.ptr id _) => if C4 m id then [id] else m
  | _ => m)
 | .call _ => (match D1 o with
  | some (f, _) => (match T.sd f with
   | some sd => if b6 sd.sg.ps && (Cl sd.sg.rs && (Dz sd.sg.ps && Nat.ble (C5 sd.sg.rs) 4)) then Dy nid else m
   | none => m)
  | none => m)
 | _ => m
def Jb (T : Tb) (s : St) (nid : Nat) (o : Oper) (av : AV) (v : St) : Ent := ⟨o, nid, true, F4 s o ++ Dy nid, av, v.res, wrO T (s.view (Bb o) (F4 s o)) nid o (F4 s o ++ Dy nid)⟩
def Me (nid : Nat) (o : Oper) : Ent := ⟨o, nid, false, [], .tp [], fun _ => .unborn, []⟩
def Y2 (P : Program) (sigs : Tb) (ops : Array Oper) (s : St) (e : Ent) : Prop :=
 (Do s ops e.o = some true ∧ ∃ av v, Kl P sigs s e.nid e.o = some (av, v) ∧ e = Jb sigs s e.nid e.o av v) ∨ (Do s ops e.o = some false ∧ e = Me e.nid e.o)
def K6 (P : Program) (sigs : Tb) (ops : Array Oper) (n : Nat) : List Ent → St → Prop
 | [], _ => True
 | e :: r, s => Y2 P sigs ops s e ∧ K6 P sigs ops n r (e.app P n s)
def Ig (P : Program) (n : Nat) (D : Nat → Bool) : Nat → List Ent → St → St
 | _, [], s => s
 | i, e :: r, s => Ig P n D (i + 1) r (if D i then e.app P n s else s)
def Ua (o : Oper) (l : List Nat) : Bool := match o.dst with
 | some d => C4 l d
 | none => false
def Xz (o o' : Oper) : Bool := match o.dst, o'.dst with
 | some d, some d' => Nat.beq d d'
 | _, _ => false
def Qp (l m : List Nat) : Bool := match l with
 | [] => false
 | i :: r => C4 m i || Qp r m
def D4 (P : Program) (ops : Array Oper) (e f : Ent) : Bool :=
 !Ua e.o (f.looks ops) && !Ua f.o (e.looks ops) && !Xz e.o f.o && ((e.quiet P || !Qp e.wr f.ids) && (f.quiet P || !Qp f.wr e.ids) && (e.quiet P || f.quiet P || !Qp e.wr f.wr))
def Gv (o : Oper) : List Nat := (o.after.toList.filter fun e => Region.binds .any e).map (·.on)
def Ob (ancs : List Nat) : List Nat → Nat
 | [] => 0
 | p :: r => ((1 <<< p) ||| (ancs.getD p 0)) ||| Ob ancs r
def Qq (P : Program) (ops : Array Oper) (A : Nat) (e : Ent) : Nat → List Ent → Bool
 | _, [] => true
 | k, d :: r => (A.testBit k || D4 P ops d e) && Qq P ops A e (k + 1) r
def Vm (i : Nat) : List Nat → Bool
 | [] => true
 | p :: r => Nat.blt p i && Vm i r
def Y3 (P : Program) (ops : Array Oper) : Nat → List Ent → List Nat → List Ent → Bool
 | _, _, _, [] => true
 | i, done, ancs, e :: r => Vm i (Gv e.o) && (Qq P ops (Ob ancs (Gv e.o)) e 0 done && Y3 P ops (i + 1) (done ++ [e]) (ancs ++ [Ob ancs (Gv e.o)]) r)
section
variable {P : Program} {n B : Nat} {Iq : List Nat} {sigs : Tb} {ops : Array Oper}
theorem Nl {l m : List Nat} : Qp l m = false ↔ ∀ i ∈ l, i ∉ m := by
 induction l with
 | nil => simp [Qp]
 | cons j r ih =>
  simp only [Qp, Bool.or_eq_false_iff, ih, List.forall_mem_cons]
  constructor
  ·rintro ⟨h1, h2⟩
   exact ⟨fun q => (by rw [A1.2 q] at h1; cases h1), h2⟩
  ·rintro ⟨h1, h2⟩
   refine ⟨?_, h2⟩
   cases hq : C4 m j
   ·rfl
   ·exact absurd (A1.1 hq) h1
theorem Sq {i : Nat} {l : List Nat} : Vm i l = true ↔ ∀ p ∈ l, p < i := by
 induction l with
 | nil => simp [Vm]
 | cons j r ih => simp [Vm, ih, Nat.blt_eq]
def Sr (P : Program) (ops : Array Oper) (e' e : Ent) : Prop := (∀ d, e'.o.dst = some d → d ∉ e.looks ops) ∧ (e'.quiet P = false → ∀ id ∈ e'.wr, id ∉ e.ids)
theorem Mf {o : Oper} {l : List Nat} (h : Ua o l = false) : ∀ d, o.dst = some d → d ∉ l := by
 intro d hd q
 unfold Ua at h
 rw [hd] at h
 simp only at h
 rw [A1.2 q] at h
 cases h
theorem Mg {e f : Ent} (h : D4 P ops e f = true) : Sr P ops e f ∧ Sr P ops f e := by
 simp only [D4, Bool.and_eq_true, Bool.not_eq_true', Bool.or_eq_true] at h
 obtain ⟨⟨⟨h1, h2⟩, h3⟩, ⟨h4, h5⟩, _⟩ := h
 refine ⟨⟨Mf h1, fun q id hid => ?_⟩, ⟨Mf h2, fun q id hid => ?_⟩⟩
 ·rcases h4 with h4 | h4
  ·rw [h4] at q; cases q
  ·exact Nl.1 h4 id hid
 ·rcases h5 with h5 | h5
  ·rw [h5] at q; cases q
  ·exact Nl.1 h5 id hid
theorem b7 (s : St) (d : Option Tmp) (av : AV) (x : Nat) : (s.put n d av).cell x = if (d = some x ∧ Nat.blt x n = true) then av else s.cell x := by
 cases d with
 | none => simp [St.put]
 | some d =>
  unfold St.put
  simp only
  by_cases q : x = d
  ·subst q
   by_cases hn : Nat.blt x n = true
   ·simp [hn, St.setCell]
   ·simp [hn]
  ·have : ¬ (some d = some x ∧ Nat.blt x n = true) := fun h => q (Option.some.inj h.1).symm
   rw [if_neg this]
   split
   ·simp [St.setCell, Ag _ _ q]
   ·rfl
theorem F5 (e : Ent) (s : St) (x : Nat) : (e.app P n s).cell x = if (e.o.dst = some x ∧ Nat.blt x n = true) then e.av else s.cell x := by
 unfold Ent.app
 rw [b7]
 split
 ·rfl
 ·split <;> rfl
theorem Ih (e : Ent) (s : St) (id : Nat) : (e.app P n s).res id = if e.quiet P = false ∧ id ∈ e.wr then e.res id else s.res id := by
 unfold Ent.app
 rw [Pc]
 by_cases q : e.quiet P = true
 ·simp [q]
 ·have q : e.quiet P = false := by simpa using q
  simp only [q, Bool.false_eq_true, if_false, true_and]
  by_cases hm : id ∈ e.wr
  ·simp [hm, A1.2 hm]
  ·have : C4 e.wr id = false := by
    cases hq : C4 e.wr id
    ·rfl
    ·exact absurd (A1.1 hq) hm
   simp [hm, this]
theorem St.ext' {s t : St} (h1 : ∀ i, s.cell i = t.cell i) (h2 : ∀ id, s.res id = t.res id) : s = t := by
 obtain ⟨c, r⟩ := s
 obtain ⟨c', r'⟩ := t
 congr
 ·exact funext h1
 ·exact funext h2
theorem b8 {e f : Ent} (h : D4 P ops e f = true) (s : St) : f.app P n (e.app P n s) = e.app P n (f.app P n s) := by
 have hd : ∀ d, e.o.dst = some d → f.o.dst ≠ some d := by
  intro d h1 h2
  simp only [D4, Bool.and_eq_true, Bool.not_eq_true'] at h
  have := h.1.2
  unfold Xz at this
  rw [h1, h2] at this
  simp at this
 have hr : ∀ id, e.quiet P = false → id ∈ e.wr → ¬ (f.quiet P = false ∧ id ∈ f.wr) := fun id q1 q2 q3 => by
  simp only [D4, Bool.and_eq_true, Bool.not_eq_true', Bool.or_eq_true] at h
  rcases h.2.2 with (h4 | h4) | h4
  ·rw [h4] at q1; cases q1
  ·rw [h4] at q3; cases q3.1
  ·exact Nl.1 h4 id q2 q3.2
 refine St.ext' (fun i => ?_) (fun id => ?_)
 ·rw [F5, F5, F5, F5]
  by_cases h1 : e.o.dst = some i ∧ Nat.blt i n = true
  ·have h2 : ¬ (f.o.dst = some i ∧ Nat.blt i n = true) := fun q => hd i h1.1 q.1
   rw [if_neg h2, if_pos h1, if_pos h1]
  ·rw [if_neg h1, if_neg h1]
 ·rw [Ih, Ih, Ih, Ih]
  by_cases h1 : e.quiet P = false ∧ id ∈ e.wr
  ·rw [if_neg (hr id h1.1 h1.2), if_pos h1, if_pos h1]
  ·rw [if_neg h1, if_neg h1]
def En (s t : St) (L I : List Nat) : Prop := (∀ x ∈ L, s.cell x = t.cell x) ∧ ∀ id ∈ I, s.res id = t.res id
theorem En.app {s t : St} {L I : List Nat} (h : En s t L I) (e : Ent) : En (e.app P n s) (e.app P n t) L I := by
 refine ⟨fun x hx => ?_, fun id hid => ?_⟩
 ·rw [F5, F5, h.1 x hx]
 ·rw [Ih, Ih, h.2 id hid]
theorem Sr.agree {e' e : Ent} (h : Sr P ops e' e) (s : St) : En (e'.app P n s) s (e.looks ops) e.ids := by
 refine ⟨fun x hx => ?_, fun id hid => ?_⟩
 ·rw [F5, if_neg (fun q => h.1 x q.1 hx)]
 ·rw [Ih, if_neg (fun q => h.2 q.1 id q.2 hid)]
theorem En.trans {s t u : St} {L I : List Nat} (h : En s t L I) (k : En t u L I) : En s u L I := ⟨fun x hx => (h.1 x hx).trans (k.1 x hx), fun x hx => (h.2 x hx).trans (k.2 x hx)⟩
theorem En.symm {s t : St} {L I : List Nat} (h : En s t L I) : En t s L I := ⟨fun x hx => (h.1 x hx).symm, fun x hx => (h.2 x hx).symm⟩
theorem In {s t : St} : ∀ {sl : List Nat}, (∀ x ∈ sl, s.cell x = t.cell x) → Cg s sl = Cg t sl
 | [], _ => rfl
 | i :: r, h => by
  simp only [Cg]
  rw [h i (by simp), In (fun x hx => h x (by simp [hx]))]
theorem E7 {s t : St} : ∀ {l : List Nat}, (∀ x ∈ l, s.res x = t.res x) → Cw s l = Cw t l
 | [], _ => rfl
 | i :: r, h => by
  simp only [Cw]
  rw [h i (by simp), E7 (fun x hx => h x (by simp [hx]))]
theorem Oc {s t : St} {sl : List Nat} (h1 : ∀ x ∈ sl, s.cell x = t.cell x) (h2 : ∀ id ∈ L7 s sl, s.res id = t.res id) : L7 t sl = L7 s sl := by
 unfold L7 at h2 ⊢
 dsimp only at h2 ⊢
 rw [← In h1]
 have e1 : Cw t (Cg s sl) = Cw s (Cg s sl) := (E7 (fun x hx => h2 x (List.mem_append_left _ (List.mem_append_left _ hx)))).symm
 rw [e1]
 have e2 : Cw t (Cg s sl ++ Cw s (Cg s sl)) = Cw s (Cg s sl ++ Cw s (Cg s sl)) := (E7 (fun x hx => h2 x (List.mem_append_left _ hx))).symm
 rw [e2]
theorem Ii {s t : St} : ∀ {l : List Nat}, (∀ x ∈ l, s.res x = t.res x) → K4 s l = K4 t l
 | [], _ => rfl
 | i :: r, h => by
  simp only [K4]
  rw [h i (by simp), Ii (fun x hx => h x (by simp [hx]))]
theorem Qr {s t : St} {o : Oper} (h1 : ∀ x ∈ Bb o, s.cell x = t.cell x) (h2 : ∀ id ∈ F4 s o, s.res id = t.res id) : F4 t o = F4 s o := by
 unfold F4 at h2 ⊢
 by_cases hm : R1 o = true
 ·rw [if_pos hm, if_pos hm]
 rw [if_neg hm] at h2
 rw [if_neg hm, if_neg hm]
 split
 ·rename_i hq
  rw [if_pos hq] at h2
  exact Oc h1 h2
 ·rename_i hq
  rw [if_neg hq] at h2
  have h3 : ∀ id ∈ L7 s (Bb o), s.res id = t.res id := fun id q => h2 id (List.mem_append_left _ q)
  rw [Oc h1 h3, ← Ii h3]
theorem R5 {s t : St} {o : Oper} {m : List Nat} (h : ∀ id ∈ m, s.res id = t.res id) : Ft o t m = Ft o s m := by
 unfold Ft
 rw [E7 h, Ii h]
theorem Mh {s t : St} : ∀ {k nid : Nat}, (∀ id, nid ≤ id → id < nid + k → s.res id = t.res id) → Ey t nid k = Ey s nid k
 | 0, _, _ => rfl
 | k + 1, nid, h => by
  simp only [Ey]
  rw [h nid (Nat.le_refl _) (by omega), Mh (fun id q1 q2 => h id (by omega) (by omega))]
theorem Qs {s t : St} {sl ids : List Nat} (h1 : ∀ x ∈ sl, s.cell x = t.cell x) (h2 : ∀ id ∈ ids, s.res id = t.res id) : t.view sl ids = s.view sl ids := by
 refine St.ext' (fun i => ?_) (fun id => ?_)
 ·show (if C4 sl i then t.cell i else .dead) = (if C4 sl i then s.cell i else .dead)
  split
  ·rename_i q; rw [h1 i (A1.1 q)]
  ·rfl
 ·show (if C4 ids id then t.res id else .unborn) = (if C4 ids id then s.res id else .unborn)
  split
  ·rename_i q; rw [h2 id (A1.1 q)]
  ·rfl
theorem Vn {s t : St} {nid : Nat} {o : Oper} (h1 : ∀ x ∈ Bb o, s.cell x = t.cell x) (h2 : ∀ id ∈ F4 s o ++ Dy nid, s.res id = t.res id) : Kl P sigs t nid o = Kl P sigs s nid o := by
 have h3 : ∀ id ∈ F4 s o, s.res id = t.res id := fun id q => h2 id (List.mem_append_left _ q)
 unfold Kl
 dsimp only
 rw [Qr h1 h3, Qs h1 h3, ← R5 h3, Mh (s := s) (t := t) (fun id q1 q2 => h2 id (List.mem_append_right _ (by
  simp only [Dy, List.mem_cons, List.not_mem_nil, or_false, Qm] at q2 ⊢
  omega)))]
theorem Ww {s t : St} {o : Oper} {j : Nat} {want : Bool} (hg : o.guard = some (j, want)) (h : ∀ x ∈ Vk ops o, s.cell x = t.cell x) : Wv t ops j = Wv s ops j := by
 unfold Vk at h
 rw [hg] at h
 simp only at h
 unfold Wv
 split
 ·rename_i oj hoj
  rw [hoj] at h
  simp only at h
  split
  ·rename_i d hd
   rw [hd] at h
   simp only [List.mem_cons, List.not_mem_nil, or_false, forall_eq] at h
   rw [h]
  ·rfl
 ·rfl
theorem Kn {s t : St} {o : Oper} (h : ∀ x ∈ Vk ops o, s.cell x = t.cell x) : Do t ops o = Do s ops o := by
 unfold Do
 split
 ·rfl
 ·rename_i j want hg
  rw [Ww hg h]
theorem Y2.local {s t : St} {e : Ent} (h : Y2 P sigs ops s e) (ha : En s t (e.looks ops) e.ids) : Y2 P sigs ops t e := by
 have hg : ∀ x ∈ Vk ops e.o, s.cell x = t.cell x := fun x hx => ha.1 x (List.mem_append_right _ hx)
 rcases h with ⟨h1, av, v, h2, h3⟩ | ⟨h1, h2⟩
 ·left
  have hrun : e.run = true := by rw [h3]; rfl
  have hids : e.ids = F4 s e.o ++ Dy e.nid := by rw [h3]; rfl
  have c1 : ∀ x ∈ Bb e.o, s.cell x = t.cell x := fun x hx => ha.1 x (List.mem_append_left _ (by rw [hrun]; exact hx))
  have c2 : ∀ id ∈ F4 s e.o ++ Dy e.nid, s.res id = t.res id := fun id hid => ha.2 id (by rw [hids]; exact hid)
  refine ⟨by rw [Kn hg]; exact h1, av, v, by rw [Vn c1 c2]; exact h2, ?_⟩
  have : Jb sigs t e.nid e.o av v = Jb sigs s e.nid e.o av v := by
   unfold Jb
   rw [Qr c1 (fun id hid => c2 id (List.mem_append_left _ hid)), Qs c1 (fun id hid => c2 id (List.mem_append_left _ hid))]
  rw [this]
  exact h3
 ·exact .inr ⟨by rw [Kn hg]; exact h1, h2⟩
theorem Qt {D : Nat → Bool} {e : Ent} : ∀ {tr : List Ent} {k : Nat} {s : St}, (∀ j f, tr[j]? = some f → D (k + j) = true → D4 P ops e f = true) → Ig P n D k tr (e.app P n s) = e.app P n (Ig P n D k tr s)
 | [], _, _, _ => rfl
 | f :: r, k, s, h => by
  simp only [Ig]
  have h' : ∀ j f', r[j]? = some f' → D (k + 1 + j) = true → D4 P ops e f' = true := fun j f' h1 h2 => h (j + 1) f' (by simpa using h1) (by rw [← h2]; congr 1; omega)
  split
  ·rename_i hD
   rw [b8 (h 0 f rfl hD), Qt h']
  ·exact Qt h'
theorem Nm {D D' : Nat → Bool} : ∀ {tr : List Ent} {k : Nat} {s : St}, (∀ j, j < tr.length → D (k + j) = D' (k + j)) → Ig P n D k tr s = Ig P n D' k tr s
 | [], _, _, _ => rfl
 | f :: r, k, s, h => by
  simp only [Ig]
  have h0 : D k = D' k := h 0 (by simp)
  rw [h0]
  exact Nm (fun j hj => by have := h (j + 1) (by simpa using hj); rw [show k + 1 + j = k + (j + 1) by omega]; exact this)
theorem X0 {D D' : Nat → Bool} {e : Ent} : ∀ {tr : List Ent} {k i : Nat} {s : St}, tr[i]? = some e → D (k + i) = false → D' (k + i) = true → (∀ j, j ≠ i → D' (k + j) = D (k + j)) →
  (∀ j f, i < j → tr[j]? = some f → D (k + j) = true → D4 P ops e f = true) → Ig P n D' k tr s = e.app P n (Ig P n D k tr s)
 | [], _, _, _, h, _, _, _, _ => by simp at h
 | f :: r, k, 0, s, h, h1, h2, h3, h4 => by
  simp at h
  subst h
  simp only [Ig]
  have h1' : D k = false := h1
  have h2' : D' k = true := h2
  rw [h1', h2']
  simp only [if_true, Bool.false_eq_true, if_false]
  rw [Nm (D := D') (D' := D) (fun j hj => by have := h3 (j + 1) (by omega); rw [show k + 1 + j = k + (j + 1) by omega]; exact this)]
  exact Qt (fun j f' q1 q2 => h4 (j + 1) f' (by omega) (by simpa using q1) (by rw [← q2]; congr 1; omega))
 | f :: r, k, i + 1, s, h, h1, h2, h3, h4 => by
  simp only [Ig]
  have h0 : D' k = D k := h3 0 (by omega)
  rw [h0]
  refine X0 (i := i) (by simpa using h) (by rw [← h1]; congr 1; omega) (by rw [← h2]; congr 1; omega) (fun j hj => ?_) (fun j f' q1 q2 q3 => ?_)
  ·have := h3 (j + 1) (by omega)
   rw [show k + 1 + j = k + (j + 1) by omega]
   exact this
  ·exact h4 (j + 1) f' (by omega) (by simpa using q2) (by rw [← q3]; congr 1; omega)
theorem Nn {D : Nat → Bool} {e : Ent} : ∀ {tr : List Ent} {k i : Nat} {s t : St}, En s t (e.looks ops) e.ids →
  (∀ j f, tr[j]? = some f → j < i → D (k + j) = false → Sr P ops f e) → (∀ j f, tr[j]? = some f → i ≤ j → D (k + j) = true → Sr P ops f e) →
  En (Ig P n D k tr s) (Ig P n (fun _ => true) k (tr.take i) t) (e.looks ops) e.ids
 | [], k, i, s, t, h, _, _ => by simpa [Ig] using h
 | f :: r, k, 0, s, t, h, h1, h2 => by
  simp only [Ig, List.take_zero]
  have ih : ∀ s', En s' t (e.looks ops) e.ids → En (Ig P n D (k + 1) r s') t (e.looks ops) e.ids := fun s' q => by
   have := Nn (D := D) (tr := r) (k := k + 1) (i := 0) q (fun j f' q1 q2 => by omega) (fun j f' q1 _ q3 => h2 (j + 1) f' (by simpa using q1) (by omega) (by rw [← q3]; congr 1; omega))
   simpa [Ig] using this
  split
  ·rename_i hD
   exact ih _ (((h2 0 f rfl (by omega) hD).agree s).trans h)
  ·exact ih _ h
 | f :: r, k, i + 1, s, t, h, h1, h2 => by
  simp only [Ig, List.take_succ_cons, if_true]
  have ih : ∀ s' t', En s' t' (e.looks ops) e.ids → En (Ig P n D (k + 1) r s') (Ig P n (fun _ => true) (k + 1) (r.take i) t') (e.looks ops) e.ids := fun s' t' q =>
   Nn (D := D) q (fun j f' q1 q2 q3 => h1 (j + 1) f' (by simpa using q1) (by omega) (by rw [← q3]; congr 1; omega)) (fun j f' q1 q2 q3 => h2 (j + 1) f' (by simpa using q1) (by omega) (by rw [← q3]; congr 1; omega))
  split
  ·exact ih _ _ (h.app f)
  ·rename_i hD
   have hD : D k = false := by simpa using hD
   exact ih _ _ (h.trans ((h1 0 f rfl (by omega) hD).agree t).symm)
theorem K6.get : ∀ {tr : List Ent} {k i : Nat} {s : St} {e : Ent}, K6 P sigs ops n tr s → tr[i]? = some e → Y2 P sigs ops (Ig P n (fun _ => true) k (tr.take i) s) e
 | [], _, _, _, _, _, h => by simp at h
 | f :: r, k, 0, s, e, h, hi => by
  simp at hi
  subst hi
  simpa [Ig] using h.1
 | f :: r, k, i + 1, s, e, h, hi => by
  simp only [List.take_succ_cons, Ig, if_true]
  exact K6.get h.2 (by simpa using hi)
def b9 (tr : List Ent) (D : Nat → Prop) : Prop := ∀ k e, tr[k]? = some e → D k → ∀ p ∈ Gv e.o, D p
def Bef (tr : List Ent) (i : Nat) (e : Ent) : Prop := ∀ D, b9 tr D → (∀ p ∈ Gv e.o, D p) → D i
theorem Ss {ancs : List Nat} {i : Nat} : ∀ {ps : List Nat}, (Ob ancs ps).testBit i = true → ∃ p ∈ ps, p = i ∨ (ancs.getD p 0).testBit i = true
 | [], h => by simp [Ob] at h
 | p :: r, h => by
  simp only [Ob, Nat.testBit_or, Bool.or_eq_true] at h
  rcases h with (h | h) | h
  ·refine ⟨p, by simp, .inl ?_⟩
   rw [Nat.one_shiftLeft, Nat.testBit_two_pow] at h
   simpa using h
  ·exact ⟨p, by simp, .inr h⟩
  ·obtain ⟨q, h1, h2⟩ := Ss h
   exact ⟨q, by simp [h1], h2⟩
theorem Qu {A : Nat} {e : Ent} : ∀ {l : List Ent} {k : Nat}, Qq P ops A e k l = true → ∀ j f, l[j]? = some f → A.testBit (k + j) = true ∨ D4 P ops f e = true
 | [], _, _, j, f, hj => by simp at hj
 | d :: r, k, h, 0, f, hj => by
  simp at hj
  subst hj
  simp only [Qq, Bool.and_eq_true, Bool.or_eq_true] at h
  exact h.1
 | d :: r, k, h, j + 1, f, hj => by
  simp only [Qq, Bool.and_eq_true, Bool.or_eq_true] at h
  have := Qu h.2 j f (by simpa using hj)
  rw [show k + (j + 1) = k + 1 + j by omega]
  exact this
theorem Vo {tr : List Ent} : ∀ {rest done : List Ent} {ancs : List Nat}, tr = done ++ rest → ancs.length = done.length → Y3 P ops done.length done ancs rest = true →
  (∀ k e x, done[k]? = some e → (ancs.getD k 0).testBit x = true → Bef tr x e) →
  (∀ i j e f, tr[i]? = some e → tr[j]? = some f → i < j → j < done.length → Bef tr i f ∨ D4 P ops e f = true) →
  (∀ j f, tr[j]? = some f → j < done.length → ∀ p ∈ Gv f.o, p < j) →
  (∀ i j e f, tr[i]? = some e → tr[j]? = some f → i < j → Bef tr i f ∨ D4 P ops e f = true) ∧ (∀ j f, tr[j]? = some f → ∀ p ∈ Gv f.o, p < j)
 | [], done, ancs, h, _, _, _, h3, h4 => by
  subst h
  rw [List.append_nil]
  refine ⟨fun i j e f h1 h2 h5 => ?_, fun j f h1 => ?_⟩
  ·have := h3 i j e f (by rw [List.append_nil]; exact h1) (by rw [List.append_nil]; exact h2) h5 (List.getElem?_eq_some_iff.1 h2).1
   rwa [List.append_nil] at this
  ·exact h4 j f (by rw [List.append_nil]; exact h1) (List.getElem?_eq_some_iff.1 h1).1
 | e :: rest, done, ancs, h, hl, hok, h2, h3, h4 => by
  simp only [Y3, Bool.and_eq_true] at hok
  obtain ⟨k1, k2, k3⟩ := hok
  have hget : tr[done.length]? = some e := by rw [h]; simp
  have hbef : ∀ x, (Ob ancs (Gv e.o)).testBit x = true → Bef tr x e := by
   intro x hx D hD hp
   obtain ⟨p, q1, q2⟩ := Ss hx
   rcases q2 with rfl | q2
   ·exact hp _ q1
   ·have hpl : p < done.length := Sq.1 k1 p q1
    have hpe : done[p]? = some done[p] := List.getElem?_eq_getElem hpl
    have hpt : tr[p]? = some done[p] := by rw [h, List.getElem?_append_left hpl]; exact hpe
    exact h2 p _ x hpe q2 D hD (hD p _ hpt (hp p q1))
  have hlen : (done ++ [e]).length = done.length + 1 := by simp
  refine Vo (rest := rest) (done := done ++ [e]) (ancs := ancs ++ [Ob ancs (Gv e.o)]) (by rw [h]; simp) (by simp [hl]) (by rw [hlen]; exact k3) ?_ ?_ ?_
  ·intro k f x hk hx
   by_cases q : k < done.length
   ·rw [List.getElem?_append_left q] at hk
    refine h2 k f x hk ?_
    rw [List.getD_eq_getElem?_getD, List.getElem?_append_left (by omega), ← List.getD_eq_getElem?_getD] at hx
    exact hx
   ·have hkl := (List.getElem?_eq_some_iff.1 hk).1
    have hke : k = done.length := by simp at hkl; omega
    subst hke
    simp at hk
    subst hk
    rw [List.getD_eq_getElem?_getD, ← hl] at hx
    simp at hx
    exact hbef x hx
  ·intro i j f f' q1 q2 q3 q4
   by_cases q : j < done.length
   ·exact h3 i j f f' q1 q2 q3 q
   ·have : j = done.length := by simp at q4; omega
    subst this
    rw [hget] at q2
    cases q2
    have hi : done[i]? = some f := by rw [h, List.getElem?_append_left q3] at q1; exact q1
    rcases Qu k2 i f hi with q5 | q5
    ·exact .inl (hbef i (by simpa using q5))
    ·exact .inr q5
  ·intro j f q1 q2
   by_cases q : j < done.length
   ·exact h4 j f q1 q
   ·have : j = done.length := by simp at q2; omega
    subst this
    rw [hget] at q1
    cases q1
    exact Sq.1 k1
end
end Go.Proofs.Ytkfoebbjncngjaa.R

