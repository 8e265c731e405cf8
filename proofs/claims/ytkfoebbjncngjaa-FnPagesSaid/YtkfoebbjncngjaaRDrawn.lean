/- A region whose order is drawn: every order leads to the same. No condition. -/
import Derived.Test.YtkfoebbjncngjaaRRegion
namespace Go.Proofs.Ytkfoebbjncngjaa.R
open Go Go.RowKit
set_option linter.unusedVariables false
set_option linter.unusedSimpArgs false
structure Ent where
 o : Oper
 nid : Nat
 run : Bool
 ids : List Nat
 av : AV
 res : Nat → Res
 wr : List Nat
def Ent.quiet (P : Program) (e : Ent) : Bool := !e.run || R6 P e.o
def Ent.app (P : Program) (n : Nat) (e : Ent) (s : St) : St := St.put n (if e.quiet P then s else ⟨s.cell, fun id => if Cw e.wr id then e.res id else s.res id⟩) e.o.dst e.av
def Vz (ops : Array Oper) (o : Oper) : List Nat := match o.guard with
 | some (j, _) => match ops[j]? with
  | some oj => match oj.dst with
   | some d => [d]
   | none => []
  | none => []
 | none => []
def Ent.looks (ops : Array Oper) (e : Ent) : List Nat := (if e.run then A4 e.o else []) ++ Vz ops e.o
def l4 : List Md → Bool
 | [] => true
 | .rd _ :: r => l4 r
 | _ => false
def wrO (T : Tb) (v : St) (nid : Nat) (o : Oper) (m : List Nat) : List Nat := match o.op with
 | .store _ x _ => (match v.leaf x with
  | some (.ptr id _) => if Cw m id then [id] else m
  | _ => m)
 | .call _ => (match D4 o with
  | some (f, _) => (match T.sd f with
   | some sd => if l4 sd.sg.ps && (B8 sd.sg.rs && (D1 sd.sg.ps && Nat.ble (Cx sd.sg.rs) 4)) then D0 nid else m
   | none => m)
  | none => m)
 | _ => m
def Ix (T : Tb) (s : St) (nid : Nat) (o : Oper) (av : AV) (v : St) : Ent := ⟨o, nid, true, F5 s o ++ D0 nid, av, v.res, wrO T (s.view (A4 o) (F5 s o)) nid o (F5 s o ++ D0 nid)⟩
def Mg (nid : Nat) (o : Oper) : Ent := ⟨o, nid, false, [], .tp [], fun _ => .unborn, []⟩
def Zy (P : Program) (sigs : Tb) (ops : Array Oper) (s : St) (e : Ent) : Prop :=
 (Dn s ops e.o = some true ∧ ∃ av v, Ka P sigs s e.nid e.o = some (av, v) ∧ e = Ix sigs s e.nid e.o av v) ∨ (Dn s ops e.o = some false ∧ e = Mg e.nid e.o)
def K2 (P : Program) (sigs : Tb) (ops : Array Oper) (n : Nat) : List Ent → St → Prop
 | [], _ => True
 | e :: r, s => Zy P sigs ops s e ∧ K2 P sigs ops n r (e.app P n s)
def H4 (P : Program) (n : Nat) (D : Nat → Bool) : Nat → List Ent → St → St
 | _, [], s => s
 | i, e :: r, s => H4 P n D (i + 1) r (if D i then e.app P n s else s)
def Un (o : Oper) (l : List Nat) : Bool := match o.dst with
 | some d => Cw l d
 | none => false
def Yw (o o' : Oper) : Bool := match o.dst, o'.dst with
 | some d, some d' => Nat.beq d d'
 | _, _ => false
def Qs (l m : List Nat) : Bool := match l with
 | [] => false
 | i :: r => Cw m i || Qs r m
def D7 (P : Program) (ops : Array Oper) (e f : Ent) : Bool :=
 !Un e.o (f.looks ops) && !Un f.o (e.looks ops) && !Yw e.o f.o && ((e.quiet P || !Qs e.wr f.ids) && (f.quiet P || !Qs f.wr e.ids) && (e.quiet P || f.quiet P || !Qs e.wr f.wr))
def Gu (o : Oper) : List Nat := (o.after.toList.filter fun e => Region.binds .any e).map (·.on)
def Oo (ancs : List Nat) : List Nat → Nat
 | [] => 0
 | p :: r => ((1 <<< p) ||| (ancs.getD p 0)) ||| Oo ancs r
def Qt (P : Program) (ops : Array Oper) (A : Nat) (e : Ent) : Nat → List Ent → Bool
 | _, [] => true
 | k, d :: r => (A.testBit k || D7 P ops d e) && Qt P ops A e (k + 1) r
def V0 (i : Nat) : List Nat → Bool
 | [] => true
 | p :: r => Nat.blt p i && V0 i r
def Zz (P : Program) (ops : Array Oper) : Nat → List Ent → List Nat → List Ent → Bool
 | _, _, _, [] => true
 | i, done, ancs, e :: r => V0 i (Gu e.o) && (Qt P ops (Oo ancs (Gu e.o)) e 0 done && Zz P ops (i + 1) (done ++ [e]) (ancs ++ [Oo ancs (Gu e.o)]) r)
section
variable {P : Program} {n B : Nat} {Iq : List Nat} {sigs : Tb} {ops : Array Oper}
theorem Nj {l m : List Nat} : Qs l m = false ↔ ∀ i ∈ l, i ∉ m := by
 induction l with
 | nil => simp [Qs]
 | cons j r ih =>
  simp only [Qs, Bool.or_eq_false_iff, ih, List.forall_mem_cons]
  constructor
  ·rintro ⟨h1, h2⟩
   exact ⟨fun q => (by rw [Aw.2 q] at h1; cases h1), h2⟩
  ·rintro ⟨h1, h2⟩
   refine ⟨?_, h2⟩
   cases hq : Cw m j
   ·rfl
   ·exact absurd (Aw.1 hq) h1
theorem S1 {i : Nat} {l : List Nat} : V0 i l = true ↔ ∀ p ∈ l, p < i := by
 induction l with
 | nil => simp [V0]
 | cons j r ih => simp [V0, ih, Nat.blt_eq]
def S2 (P : Program) (ops : Array Oper) (e' e : Ent) : Prop := (∀ d, e'.o.dst = some d → d ∉ e.looks ops) ∧ (e'.quiet P = false → ∀ id ∈ e'.wr, id ∉ e.ids)
theorem Mh {o : Oper} {l : List Nat} (h : Un o l = false) : ∀ d, o.dst = some d → d ∉ l := by
 intro d hd q
 unfold Un at h
 rw [hd] at h
 simp only at h
 rw [Aw.2 q] at h
 cases h
theorem Mi {e f : Ent} (h : D7 P ops e f = true) : S2 P ops e f ∧ S2 P ops f e := by
 simp only [D7, Bool.and_eq_true, Bool.not_eq_true', Bool.or_eq_true] at h
 obtain ⟨⟨⟨h1, h2⟩, h3⟩, ⟨h4, h5⟩, _⟩ := h
 refine ⟨⟨Mh h1, fun q id hid => ?_⟩, ⟨Mh h2, fun q id hid => ?_⟩⟩
 ·rcases h4 with h4 | h4
  ·rw [h4] at q; cases q
  ·exact Nj.1 h4 id hid
 ·rcases h5 with h5 | h5
  ·rw [h5] at q; cases q
  ·exact Nj.1 h5 id hid
theorem l5 (s : St) (d : Option Tmp) (av : AV) (x : Nat) : (s.put n d av).cell x = if (d = some x ∧ Nat.blt x n = true) then av else s.cell x := by
 cases d with
 | none => simp [St.put]
 | some d =>
  unfold St.put
  simp only
  by_cases q : x = d
  ·subst q
   by_cases hn : Nat.blt x n = true
   ·simp [hn, St.setCell]
   ·simp [hn]
  ·have : ¬ (some d = some x ∧ Nat.blt x n = true) := fun h => q (Option.some.inj h.1).symm
   rw [if_neg this]
   split
   ·simp [St.setCell, Aj _ _ q]
   ·rfl
theorem F6 (e : Ent) (s : St) (x : Nat) : (e.app P n s).cell x = if (e.o.dst = some x ∧ Nat.blt x n = true) then e.av else s.cell x := by
 unfold Ent.app
 rw [l5]
 split
 ·rfl
 ·split <;> rfl
theorem H5 (e : Ent) (s : St) (id : Nat) : (e.app P n s).res id = if e.quiet P = false ∧ id ∈ e.wr then e.res id else s.res id := by
 unfold Ent.app
 rw [Pm]
 by_cases q : e.quiet P = true
 ·simp [q]
 ·have q : e.quiet P = false := by simpa using q
  simp only [q, Bool.false_eq_true, if_false, true_and]
  by_cases hm : id ∈ e.wr
  ·simp [hm, Aw.2 hm]
  ·have : Cw e.wr id = false := by
    cases hq : Cw e.wr id
    ·rfl
    ·exact absurd (Aw.1 hq) hm
   simp [hm, this]
theorem St.ext' {s t : St} (h1 : ∀ i, s.cell i = t.cell i) (h2 : ∀ id, s.res id = t.res id) : s = t := by
 obtain ⟨c, r⟩ := s
 obtain ⟨c', r'⟩ := t
 congr
 ·exact funext h1
 ·exact funext h2
theorem l6 {e f : Ent} (h : D7 P ops e f = true) (s : St) : f.app P n (e.app P n s) = e.app P n (f.app P n s) := by
 have hd : ∀ d, e.o.dst = some d → f.o.dst ≠ some d := by
  intro d h1 h2
  simp only [D7, Bool.and_eq_true, Bool.not_eq_true'] at h
  have := h.1.2
  unfold Yw at this
  rw [h1, h2] at this
  simp at this
 have hr : ∀ id, e.quiet P = false → id ∈ e.wr → ¬ (f.quiet P = false ∧ id ∈ f.wr) := fun id q1 q2 q3 => by
  simp only [D7, Bool.and_eq_true, Bool.not_eq_true', Bool.or_eq_true] at h
  rcases h.2.2 with (h4 | h4) | h4
  ·rw [h4] at q1; cases q1
  ·rw [h4] at q3; cases q3.1
  ·exact Nj.1 h4 id q2 q3.2
 refine St.ext' (fun i => ?_) (fun id => ?_)
 ·rw [F6, F6, F6, F6]
  by_cases h1 : e.o.dst = some i ∧ Nat.blt i n = true
  ·have h2 : ¬ (f.o.dst = some i ∧ Nat.blt i n = true) := fun q => hd i h1.1 q.1
   rw [if_neg h2, if_pos h1, if_pos h1]
  ·rw [if_neg h1, if_neg h1]
 ·rw [H5, H5, H5, H5]
  by_cases h1 : e.quiet P = false ∧ id ∈ e.wr
  ·rw [if_neg (hr id h1.1 h1.2), if_pos h1, if_pos h1]
  ·rw [if_neg h1, if_neg h1]
def Er (s t : St) (L I : List Nat) : Prop := (∀ x ∈ L, s.cell x = t.cell x) ∧ ∀ id ∈ I, s.res id = t.res id
theorem Er.app {s t : St} {L I : List Nat} (h : Er s t L I) (e : Ent) : Er (e.app P n s) (e.app P n t) L I := by
 refine ⟨fun x hx => ?_, fun id hid => ?_⟩
 ·rw [F6, F6, h.1 x hx]
 ·rw [H5, H5, h.2 id hid]
theorem S2.agree {e' e : Ent} (h : S2 P ops e' e) (s : St) : Er (e'.app P n s) s (e.looks ops) e.ids := by
 refine ⟨fun x hx => ?_, fun id hid => ?_⟩
 ·rw [F6, if_neg (fun q => h.1 x q.1 hx)]
 ·rw [H5, if_neg (fun q => h.2 q.1 id q.2 hid)]
theorem Er.trans {s t u : St} {L I : List Nat} (h : Er s t L I) (k : Er t u L I) : Er s u L I := ⟨fun x hx => (h.1 x hx).trans (k.1 x hx), fun x hx => (h.2 x hx).trans (k.2 x hx)⟩
theorem Er.symm {s t : St} {L I : List Nat} (h : Er s t L I) : Er t s L I := ⟨fun x hx => (h.1 x hx).symm, fun x hx => (h.2 x hx).symm⟩
theorem Id {s t : St} : ∀ {sl : List Nat}, (∀ x ∈ sl, s.cell x = t.cell x) → B3 s sl = B3 t sl
 | [], _ => rfl
 | i :: r, h => by
  simp only [B3]
  rw [h i (by simp), Id (fun x hx => h x (by simp [hx]))]
theorem Fd {s t : St} : ∀ {l : List Nat}, (∀ x ∈ l, s.res x = t.res x) → Cm s l = Cm t l
 | [], _ => rfl
 | i :: r, h => by
  simp only [Cm]
  rw [h i (by simp), Fd (fun x hx => h x (by simp [hx]))]
theorem Oq {s t : St} {sl : List Nat} (h1 : ∀ x ∈ sl, s.cell x = t.cell x) (h2 : ∀ id ∈ L9 s sl, s.res id = t.res id) : L9 t sl = L9 s sl := by
 unfold L9 at h2 ⊢
 dsimp only at h2 ⊢
 rw [← Id h1]
 have e1 : Cm t (B3 s sl) = Cm s (B3 s sl) := (Fd (fun x hx => h2 x (List.mem_append_left _ (List.mem_append_left _ hx)))).symm
 rw [e1]
 have e2 : Cm t (B3 s sl ++ Cm s (B3 s sl)) = Cm s (B3 s sl ++ Cm s (B3 s sl)) := (Fd (fun x hx => h2 x (List.mem_append_left _ hx))).symm
 rw [e2]
theorem H6 {s t : St} : ∀ {l : List Nat}, (∀ x ∈ l, s.res x = t.res x) → K0 s l = K0 t l
 | [], _ => rfl
 | i :: r, h => by
  simp only [K0]
  rw [h i (by simp), H6 (fun x hx => h x (by simp [hx]))]
theorem Qu {s t : St} {o : Oper} (h1 : ∀ x ∈ A4 o, s.cell x = t.cell x) (h2 : ∀ id ∈ F5 s o, s.res id = t.res id) : F5 t o = F5 s o := by
 unfold F5 at h2 ⊢
 by_cases hm : R3 o = true
 ·rw [if_pos hm, if_pos hm]
 rw [if_neg hm] at h2
 rw [if_neg hm, if_neg hm]
 split
 ·rename_i hq
  rw [if_pos hq] at h2
  exact Oq h1 h2
 ·rename_i hq
  rw [if_neg hq] at h2
  have h3 : ∀ id ∈ L9 s (A4 o), s.res id = t.res id := fun id q => h2 id (List.mem_append_left _ q)
  rw [Oq h1 h3, ← H6 h3]
theorem R7 {s t : St} {o : Oper} {m : List Nat} (h : ∀ id ∈ m, s.res id = t.res id) : Fr o t m = Fr o s m := by
 unfold Fr
 rw [Fd h, H6 h]
theorem Mj {s t : St} : ∀ {k nid : Nat}, (∀ id, nid ≤ id → id < nid + k → s.res id = t.res id) → Eu t nid k = Eu s nid k
 | 0, _, _ => rfl
 | k + 1, nid, h => by
  simp only [Eu]
  rw [h nid (Nat.le_refl _) (by omega), Mj (fun id q1 q2 => h id (by omega) (by omega))]
theorem Qv {s t : St} {sl ids : List Nat} (h1 : ∀ x ∈ sl, s.cell x = t.cell x) (h2 : ∀ id ∈ ids, s.res id = t.res id) : t.view sl ids = s.view sl ids := by
 refine St.ext' (fun i => ?_) (fun id => ?_)
 ·show (if Cw sl i then t.cell i else .dead) = (if Cw sl i then s.cell i else .dead)
  split
  ·rename_i q; rw [h1 i (Aw.1 q)]
  ·rfl
 ·show (if Cw ids id then t.res id else .unborn) = (if Cw ids id then s.res id else .unborn)
  split
  ·rename_i q; rw [h2 id (Aw.1 q)]
  ·rfl
theorem V1 {s t : St} {nid : Nat} {o : Oper} (h1 : ∀ x ∈ A4 o, s.cell x = t.cell x) (h2 : ∀ id ∈ F5 s o ++ D0 nid, s.res id = t.res id) : Ka P sigs t nid o = Ka P sigs s nid o := by
 have h3 : ∀ id ∈ F5 s o, s.res id = t.res id := fun id q => h2 id (List.mem_append_left _ q)
 unfold Ka
 dsimp only
 rw [Qu h1 h3, Qv h1 h3, ← R7 h3, Mj (s := s) (t := t) (fun id q1 q2 => h2 id (List.mem_append_right _ (by
  simp only [D0, List.mem_cons, List.not_mem_nil, or_false, Qp] at q2 ⊢
  omega)))]
theorem Xt {s t : St} {o : Oper} {j : Nat} {want : Bool} (hg : o.guard = some (j, want)) (h : ∀ x ∈ Vz ops o, s.cell x = t.cell x) : Xs t ops j = Xs s ops j := by
 unfold Vz at h
 rw [hg] at h
 simp only at h
 unfold Xs
 split
 ·rename_i oj hoj
  rw [hoj] at h
  simp only at h
  split
  ·rename_i d hd
   rw [hd] at h
   simp only [List.mem_cons, List.not_mem_nil, or_false, forall_eq] at h
   rw [h]
  ·rfl
 ·rfl
theorem Kc {s t : St} {o : Oper} (h : ∀ x ∈ Vz ops o, s.cell x = t.cell x) : Dn t ops o = Dn s ops o := by
 unfold Dn
 split
 ·rfl
 ·rename_i j want hg
  rw [Xt hg h]
theorem Zy.local {s t : St} {e : Ent} (h : Zy P sigs ops s e) (ha : Er s t (e.looks ops) e.ids) : Zy P sigs ops t e := by
 have hg : ∀ x ∈ Vz ops e.o, s.cell x = t.cell x := fun x hx => ha.1 x (List.mem_append_right _ hx)
 rcases h with ⟨h1, av, v, h2, h3⟩ | ⟨h1, h2⟩
 ·left
  have hrun : e.run = true := by rw [h3]; rfl
  have hids : e.ids = F5 s e.o ++ D0 e.nid := by rw [h3]; rfl
  have c1 : ∀ x ∈ A4 e.o, s.cell x = t.cell x := fun x hx => ha.1 x (List.mem_append_left _ (by rw [hrun]; exact hx))
  have c2 : ∀ id ∈ F5 s e.o ++ D0 e.nid, s.res id = t.res id := fun id hid => ha.2 id (by rw [hids]; exact hid)
  refine ⟨by rw [Kc hg]; exact h1, av, v, by rw [V1 c1 c2]; exact h2, ?_⟩
  have : Ix sigs t e.nid e.o av v = Ix sigs s e.nid e.o av v := by
   unfold Ix
   rw [Qu c1 (fun id hid => c2 id (List.mem_append_left _ hid)), Qv c1 (fun id hid => c2 id (List.mem_append_left _ hid))]
  rw [this]
  exact h3
 ·exact .inr ⟨by rw [Kc hg]; exact h1, h2⟩
theorem Qw {D : Nat → Bool} {e : Ent} : ∀ {tr : List Ent} {k : Nat} {s : St}, (∀ j f, tr[j]? = some f → D (k + j) = true → D7 P ops e f = true) → H4 P n D k tr (e.app P n s) = e.app P n (H4 P n D k tr s)
 | [], _, _, _ => rfl
 | f :: r, k, s, h => by
  simp only [H4]
  have h' : ∀ j f', r[j]? = some f' → D (k + 1 + j) = true → D7 P ops e f' = true := fun j f' h1 h2 => h (j + 1) f' (by simpa using h1) (by rw [← h2]; congr 1; omega)
  split
  ·rename_i hD
   rw [l6 (h 0 f rfl hD), Qw h']
  ·exact Qw h'
theorem Nk {D D' : Nat → Bool} : ∀ {tr : List Ent} {k : Nat} {s : St}, (∀ j, j < tr.length → D (k + j) = D' (k + j)) → H4 P n D k tr s = H4 P n D' k tr s
 | [], _, _, _ => rfl
 | f :: r, k, s, h => by
  simp only [H4]
  have h0 : D k = D' k := h 0 (by simp)
  rw [h0]
  exact Nk (fun j hj => by have := h (j + 1) (by simpa using hj); rw [show k + 1 + j = k + (j + 1) by omega]; exact this)
theorem Yx {D D' : Nat → Bool} {e : Ent} : ∀ {tr : List Ent} {k i : Nat} {s : St}, tr[i]? = some e → D (k + i) = false → D' (k + i) = true → (∀ j, j ≠ i → D' (k + j) = D (k + j)) →
  (∀ j f, i < j → tr[j]? = some f → D (k + j) = true → D7 P ops e f = true) → H4 P n D' k tr s = e.app P n (H4 P n D k tr s)
 | [], _, _, _, h, _, _, _, _ => by simp at h
 | f :: r, k, 0, s, h, h1, h2, h3, h4 => by
  simp at h
  subst h
  simp only [H4]
  have h1' : D k = false := h1
  have h2' : D' k = true := h2
  rw [h1', h2']
  simp only [if_true, Bool.false_eq_true, if_false]
  rw [Nk (D := D') (D' := D) (fun j hj => by have := h3 (j + 1) (by omega); rw [show k + 1 + j = k + (j + 1) by omega]; exact this)]
  exact Qw (fun j f' q1 q2 => h4 (j + 1) f' (by omega) (by simpa using q1) (by rw [← q2]; congr 1; omega))
 | f :: r, k, i + 1, s, h, h1, h2, h3, h4 => by
  simp only [H4]
  have h0 : D' k = D k := h3 0 (by omega)
  rw [h0]
  refine Yx (i := i) (by simpa using h) (by rw [← h1]; congr 1; omega) (by rw [← h2]; congr 1; omega) (fun j hj => ?_) (fun j f' q1 q2 q3 => ?_)
  ·have := h3 (j + 1) (by omega)
   rw [show k + 1 + j = k + (j + 1) by omega]
   exact this
  ·exact h4 (j + 1) f' (by omega) (by simpa using q2) (by rw [← q3]; congr 1; omega)
theorem Nl {D : Nat → Bool} {e : Ent} : ∀ {tr : List Ent} {k i : Nat} {s t : St}, Er s t (e.looks ops) e.ids →
  (∀ j f, tr[j]? = some f → j < i → D (k + j) = false → S2 P ops f e) → (∀ j f, tr[j]? = some f → i ≤ j → D (k + j) = true → S2 P ops f e) →
  Er (H4 P n D k tr s) (H4 P n (fun _ => true) k (tr.take i) t) (e.looks ops) e.ids
 | [], k, i, s, t, h, _, _ => by simpa [H4] using h
 | f :: r, k, 0, s, t, h, h1, h2 => by
  simp only [H4, List.take_zero]
  have ih : ∀ s', Er s' t (e.looks ops) e.ids → Er (H4 P n D (k + 1) r s') t (e.looks ops) e.ids := fun s' q => by
   have := Nl (D := D) (tr := r) (k := k + 1) (i := 0) q (fun j f' q1 q2 => by omega) (fun j f' q1 _ q3 => h2 (j + 1) f' (by simpa using q1) (by omega) (by rw [← q3]; congr 1; omega))
   simpa [H4] using this
  split
  ·rename_i hD
   exact ih _ (((h2 0 f rfl (by omega) hD).agree s).trans h)
  ·exact ih _ h
 | f :: r, k, i + 1, s, t, h, h1, h2 => by
  simp only [H4, List.take_succ_cons, if_true]
  have ih : ∀ s' t', Er s' t' (e.looks ops) e.ids → Er (H4 P n D (k + 1) r s') (H4 P n (fun _ => true) (k + 1) (r.take i) t') (e.looks ops) e.ids := fun s' t' q =>
   Nl (D := D) q (fun j f' q1 q2 q3 => h1 (j + 1) f' (by simpa using q1) (by omega) (by rw [← q3]; congr 1; omega)) (fun j f' q1 q2 q3 => h2 (j + 1) f' (by simpa using q1) (by omega) (by rw [← q3]; congr 1; omega))
  split
  ·exact ih _ _ (h.app f)
  ·rename_i hD
   have hD : D k = false := by simpa using hD
   exact ih _ _ (h.trans ((h1 0 f rfl (by omega) hD).agree t).symm)
theorem K2.get : ∀ {tr : List Ent} {k i : Nat} {s : St} {e : Ent}, K2 P sigs ops n tr s → tr[i]? = some e → Zy P sigs ops (H4 P n (fun _ => true) k (tr.take i) s) e
 | [], _, _, _, _, _, h => by simp at h
 | f :: r, k, 0, s, e, h, hi => by
  simp at hi
  subst hi
  simpa [H4] using h.1
 | f :: r, k, i + 1, s, e, h, hi => by
  simp only [List.take_succ_cons, H4, if_true]
  exact K2.get h.2 (by simpa using hi)
def l7 (tr : List Ent) (D : Nat → Prop) : Prop := ∀ k e, tr[k]? = some e → D k → ∀ p ∈ Gu e.o, D p
def Bef (tr : List Ent) (i : Nat) (e : Ent) : Prop := ∀ D, l7 tr D → (∀ p ∈ Gu e.o, D p) → D i
theorem S3 {ancs : List Nat} {i : Nat} : ∀ {ps : List Nat}, (Oo ancs ps).testBit i = true → ∃ p ∈ ps, p = i ∨ (ancs.getD p 0).testBit i = true
 | [], h => by simp [Oo] at h
 | p :: r, h => by
  simp only [Oo, Nat.testBit_or, Bool.or_eq_true] at h
  rcases h with (h | h) | h
  ·refine ⟨p, by simp, .inl ?_⟩
   rw [Nat.one_shiftLeft, Nat.testBit_two_pow] at h
   simpa using h
  ·exact ⟨p, by simp, .inr h⟩
  ·obtain ⟨q, h1, h2⟩ := S3 h
   exact ⟨q, by simp [h1], h2⟩
theorem Qx {A : Nat} {e : Ent} : ∀ {l : List Ent} {k : Nat}, Qt P ops A e k l = true → ∀ j f, l[j]? = some f → A.testBit (k + j) = true ∨ D7 P ops f e = true
 | [], _, _, j, f, hj => by simp at hj
 | d :: r, k, h, 0, f, hj => by
  simp at hj
  subst hj
  simp only [Qt, Bool.and_eq_true, Bool.or_eq_true] at h
  exact h.1
 | d :: r, k, h, j + 1, f, hj => by
  simp only [Qt, Bool.and_eq_true, Bool.or_eq_true] at h
  have := Qx h.2 j f (by simpa using hj)
  rw [show k + (j + 1) = k + 1 + j by omega]
  exact this
theorem V2 {tr : List Ent} : ∀ {rest done : List Ent} {ancs : List Nat}, tr = done ++ rest → ancs.length = done.length → Zz P ops done.length done ancs rest = true →
  (∀ k e x, done[k]? = some e → (ancs.getD k 0).testBit x = true → Bef tr x e) →
  (∀ i j e f, tr[i]? = some e → tr[j]? = some f → i < j → j < done.length → Bef tr i f ∨ D7 P ops e f = true) →
  (∀ j f, tr[j]? = some f → j < done.length → ∀ p ∈ Gu f.o, p < j) →
  (∀ i j e f, tr[i]? = some e → tr[j]? = some f → i < j → Bef tr i f ∨ D7 P ops e f = true) ∧ (∀ j f, tr[j]? = some f → ∀ p ∈ Gu f.o, p < j)
 | [], done, ancs, h, _, _, _, h3, h4 => by
  subst h
  rw [List.append_nil]
  refine ⟨fun i j e f h1 h2 h5 => ?_, fun j f h1 => ?_⟩
  ·have := h3 i j e f (by rw [List.append_nil]; exact h1) (by rw [List.append_nil]; exact h2) h5 (List.getElem?_eq_some_iff.1 h2).1
   rwa [List.append_nil] at this
  ·exact h4 j f (by rw [List.append_nil]; exact h1) (List.getElem?_eq_some_iff.1 h1).1
 | e :: rest, done, ancs, h, hl, hok, h2, h3, h4 => by
  simp only [Zz, Bool.and_eq_true] at hok
  obtain ⟨k1, k2, k3⟩ := hok
  have hget : tr[done.length]? = some e := by rw [h]; simp
  have hbef : ∀ x, (Oo ancs (Gu e.o)).testBit x = true → Bef tr x e := by
   intro x hx D hD hp
   obtain ⟨p, q1, q2⟩ := S3 hx
   rcases q2 with rfl | q2
   ·exact hp _ q1
   ·have hpl : p < done.length := S1.1 k1 p q1
    have hpe : done[p]? = some done[p] := List.getElem?_eq_getElem hpl
    have hpt : tr[p]? = some done[p] := by rw [h, List.getElem?_append_left hpl]; exact hpe
    exact h2 p _ x hpe q2 D hD (hD p _ hpt (hp p q1))
  have hlen : (done ++ [e]).length = done.length + 1 := by simp
  refine V2 (rest := rest) (done := done ++ [e]) (ancs := ancs ++ [Oo ancs (Gu e.o)]) (by rw [h]; simp) (by simp [hl]) (by rw [hlen]; exact k3) ?_ ?_ ?_
  ·intro k f x hk hx
   by_cases q : k < done.length
   ·rw [List.getElem?_append_left q] at hk
    refine h2 k f x hk ?_
    rw [List.getD_eq_getElem?_getD, List.getElem?_append_left (by omega), ← List.getD_eq_getElem?_getD] at hx
    exact hx
   ·have hkl := (List.getElem?_eq_some_iff.1 hk).1
    have hke : k = done.length := by simp at hkl; omega
    subst hke
    simp at hk
    subst hk
    rw [List.getD_eq_getElem?_getD, ← hl] at hx
    simp at hx
    exact hbef x hx
  ·intro i j f f' q1 q2 q3 q4
   by_cases q : j < done.length
   ·exact h3 i j f f' q1 q2 q3 q
   ·have : j = done.length := by simp at q4; omega
    subst this
    rw [hget] at q2
    cases q2
    have hi : done[i]? = some f := by rw [h, List.getElem?_append_left q3] at q1; exact q1
    rcases Qx k2 i f hi with q5 | q5
    ·exact .inl (hbef i (by simpa using q5))
    ·exact .inr q5
  ·intro j f q1 q2
   by_cases q : j < done.length
   ·exact h4 j f q1 q
   ·have : j = done.length := by simp at q2; omega
    subst this
    rw [hget] at q1
    cases q1
    exact S1.1 k1
end
end Go.Proofs.Ytkfoebbjncngjaa.R

