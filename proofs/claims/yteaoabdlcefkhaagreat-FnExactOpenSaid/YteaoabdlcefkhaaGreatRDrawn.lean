/- A region whose order is drawn: every order leads to the same. No condition. -/
import Derived.Test.YteaoabdlcefkhaaGreatRRegion
namespace Go.Proofs.YteaoabdlcefkhaaGreat.R
open Go Go.RowKit
set_option linter.unusedVariables false
set_option linter.unusedSimpArgs false
structure Ent where
 o : Oper
 nid : Nat
 run : Bool
 ids : List Nat
 av : AV
 res : Nat → Res
def Ent.quiet (P : Program) (e : Ent) : Bool := !e.run || Amg P e.o
def Ent.app (P : Program) (n : Nat) (e : Ent) (s : St) : St := St.put n (if e.quiet P then s else ⟨s.cell, fun id => if Kr e.ids id then e.res id else s.res id⟩) e.o.dst e.av
def Aru (ops : Array Oper) (o : Oper) : List Nat := match o.guard with
 | some (j, _) => match ops[j]? with
  | some oj => match oj.dst with
   | some d => [d]
   | none => []
  | none => []
 | none => []
def Ent.looks (ops : Array Oper) (e : Ent) : List Nat := (if e.run then Ea e.o else []) ++ Aru ops e.o
def Xn (s : St) (nid : Nat) (o : Oper) (av : AV) (v : St) : Ent := ⟨o, nid, true, Vq s o ++ O5 nid, av, v.res⟩
def Aaf (nid : Nat) (o : Oper) : Ent := ⟨o, nid, false, [], .tp [], fun _ => .unborn⟩
def Axa (P : Program) (sigs : Tb) (ops : Array Oper) (s : St) (e : Ent) : Prop :=
 (Kb s ops e.o = some true ∧ ∃ av v, Aaa P sigs s e.nid e.o = some (av, v) ∧ e = Xn s e.nid e.o av v) ∨ (Kb s ops e.o = some false ∧ e = Aaf e.nid e.o)
def l6 (P : Program) (sigs : Tb) (ops : Array Oper) (n : Nat) : List Ent → St → Prop
 | [], _ => True
 | e :: r, s => Axa P sigs ops s e ∧ l6 P sigs ops n r (e.app P n s)
def Vr (P : Program) (n : Nat) (D : Nat → Bool) : Nat → List Ent → St → St
 | _, [], s => s
 | i, e :: r, s => Vr P n D (i + 1) r (if D i then e.app P n s else s)
def Apk (o : Oper) (l : List Nat) : Bool := match o.dst with
 | some d => Kr l d
 | none => false
def Avx (o o' : Oper) : Bool := match o.dst, o'.dst with
 | some d, some d' => Nat.beq d d'
 | _, _ => false
def Arv (l m : List Nat) : Bool := match l with
 | [] => false
 | i :: r => Kr m i || Arv r m
def Nm (P : Program) (ops : Array Oper) (e f : Ent) : Bool :=
 !Apk e.o (f.looks ops) && !Apk f.o (e.looks ops) && !Avx e.o f.o && ((e.quiet P && f.quiet P) || !Arv e.ids f.ids)
def R5 (o : Oper) : List Nat := (o.after.toList.filter fun e => Region.binds .any e).map (·.on)
def Afp (ancs : List Nat) : List Nat → Nat
 | [] => 0
 | p :: r => ((1 <<< p) ||| (ancs.getD p 0)) ||| Afp ancs r
def Ajh (P : Program) (ops : Array Oper) (A : Nat) (e : Ent) : Nat → List Ent → Bool
 | _, [] => true
 | k, d :: r => (A.testBit k || Nm P ops d e) && Ajh P ops A e (k + 1) r
def Arw (i : Nat) : List Nat → Bool
 | [] => true
 | p :: r => Nat.blt p i && Arw i r
def Axb (P : Program) (ops : Array Oper) : Nat → List Ent → List Nat → List Ent → Bool
 | _, _, _, [] => true
 | i, done, ancs, e :: r => Arw i (R5 e.o) && (Ajh P ops (Afp ancs (R5 e.o)) e 0 done && Axb P ops (i + 1) (done ++ [e]) (ancs ++ [Afp ancs (R5 e.o)]) r)
section
variable {P : Program} {n B : Nat} {Iq : List Nat} {sigs : Tb} {ops : Array Oper}
theorem Anq {l m : List Nat} : Arv l m = false ↔ ∀ i ∈ l, i ∉ m := by
 induction l with
 | nil => simp [Arv]
 | cons j r ih =>
  simp only [Arv, Bool.or_eq_false_iff, ih, List.forall_mem_cons]
  constructor
  ·rintro ⟨h1, h2⟩
   exact ⟨fun q => (by rw [Ed.2 q] at h1; cases h1), h2⟩
  ·rintro ⟨h1, h2⟩
   refine ⟨?_, h2⟩
   cases hq : Kr m j
   ·rfl
   ·exact absurd (Ed.1 hq) h1
theorem Anr {i : Nat} {l : List Nat} : Arw i l = true ↔ ∀ p ∈ l, p < i := by
 induction l with
 | nil => simp [Arw]
 | cons j r ih => simp [Arw, ih, Nat.blt_eq]
def Ans (P : Program) (ops : Array Oper) (e' e : Ent) : Prop := (∀ d, e'.o.dst = some d → d ∉ e.looks ops) ∧ (e'.quiet P = false → ∀ id ∈ e'.ids, id ∉ e.ids)
theorem Aag {o : Oper} {l : List Nat} (h : Apk o l = false) : ∀ d, o.dst = some d → d ∉ l := by
 intro d hd q
 unfold Apk at h
 rw [hd] at h
 simp only at h
 rw [Ed.2 q] at h
 cases h
theorem Vs {e f : Ent} (h : Nm P ops e f = true) : Ans P ops e f ∧ Ans P ops f e := by
 simp only [Nm, Bool.and_eq_true, Bool.not_eq_true', Bool.or_eq_true] at h
 obtain ⟨⟨⟨h1, h2⟩, h3⟩, h4⟩ := h
 refine ⟨⟨Aag h1, fun q id hid => ?_⟩, ⟨Aag h2, fun q id hid hid' => ?_⟩⟩
 ·rcases h4 with h4 | h4
  ·rw [h4.1] at q; cases q
  ·exact Anq.1 h4 id hid
 ·rcases h4 with h4 | h4
  ·rw [h4.2] at q; cases q
  ·exact Anq.1 h4 id hid' hid
theorem Ays (s : St) (d : Option Tmp) (av : AV) (x : Nat) : (s.put n d av).cell x = if (d = some x ∧ Nat.blt x n = true) then av else s.cell x := by
 cases d with
 | none => simp [St.put]
 | some d =>
  unfold St.put
  simp only
  by_cases q : x = d
  ·subst q
   by_cases hn : Nat.blt x n = true
   ·simp [hn, St.setCell]
   ·simp [hn]
  ·have : ¬ (some d = some x ∧ Nat.blt x n = true) := fun h => q (Option.some.inj h.1).symm
   rw [if_neg this]
   split
   ·simp [St.setCell, Ax _ _ q]
   ·rfl
theorem Qh (e : Ent) (s : St) (x : Nat) : (e.app P n s).cell x = if (e.o.dst = some x ∧ Nat.blt x n = true) then e.av else s.cell x := by
 unfold Ent.app
 rw [Ays]
 split
 ·rfl
 ·split <;> rfl
theorem Vt (e : Ent) (s : St) (id : Nat) : (e.app P n s).res id = if e.quiet P = false ∧ id ∈ e.ids then e.res id else s.res id := by
 unfold Ent.app
 rw [Ah9]
 by_cases q : e.quiet P = true
 ·simp [q]
 ·have q : e.quiet P = false := by simpa using q
  simp only [q, Bool.false_eq_true, if_false, true_and]
  by_cases hm : id ∈ e.ids
  ·simp [hm, Ed.2 hm]
  ·have : Kr e.ids id = false := by
    cases hq : Kr e.ids id
    ·rfl
    ·exact absurd (Ed.1 hq) hm
   simp [hm, this]
theorem St.ext' {s t : St} (h1 : ∀ i, s.cell i = t.cell i) (h2 : ∀ id, s.res id = t.res id) : s = t := by
 obtain ⟨c, r⟩ := s
 obtain ⟨c', r'⟩ := t
 congr
 ·exact funext h1
 ·exact funext h2
theorem Ayt {e f : Ent} (h : Nm P ops e f = true) (s : St) : f.app P n (e.app P n s) = e.app P n (f.app P n s) := by
 have hd : ∀ d, e.o.dst = some d → f.o.dst ≠ some d := by
  intro d h1 h2
  simp only [Nm, Bool.and_eq_true, Bool.not_eq_true'] at h
  have := h.1.2
  unfold Avx at this
  rw [h1, h2] at this
  simp at this
 have hr : ∀ id, e.quiet P = false → id ∈ e.ids → ¬ (f.quiet P = false ∧ id ∈ f.ids) := fun id q1 q2 q3 => (Vs h).1.2 q1 id q2 q3.2
 refine St.ext' (fun i => ?_) (fun id => ?_)
 ·rw [Qh, Qh, Qh, Qh]
  by_cases h1 : e.o.dst = some i ∧ Nat.blt i n = true
  ·have h2 : ¬ (f.o.dst = some i ∧ Nat.blt i n = true) := fun q => hd i h1.1 q.1
   rw [if_neg h2, if_pos h1, if_pos h1]
  ·rw [if_neg h1, if_neg h1]
 ·rw [Vt, Vt, Vt, Vt]
  by_cases h1 : e.quiet P = false ∧ id ∈ e.ids
  ·rw [if_neg (hr id h1.1 h1.2), if_pos h1, if_pos h1]
  ·rw [if_neg h1, if_neg h1]
def Ni (s t : St) (L I : List Nat) : Prop := (∀ x ∈ L, s.cell x = t.cell x) ∧ ∀ id ∈ I, s.res id = t.res id
theorem Ni.app {s t : St} {L I : List Nat} (h : Ni s t L I) (e : Ent) : Ni (e.app P n s) (e.app P n t) L I := by
 refine ⟨fun x hx => ?_, fun id hid => ?_⟩
 ·rw [Qh, Qh, h.1 x hx]
 ·rw [Vt, Vt, h.2 id hid]
theorem Ans.agree {e' e : Ent} (h : Ans P ops e' e) (s : St) : Ni (e'.app P n s) s (e.looks ops) e.ids := by
 refine ⟨fun x hx => ?_, fun id hid => ?_⟩
 ·rw [Qh, if_neg (fun q => h.1 x q.1 hx)]
 ·rw [Vt, if_neg (fun q => h.2 q.1 id q.2 hid)]
theorem Ni.trans {s t u : St} {L I : List Nat} (h : Ni s t L I) (k : Ni t u L I) : Ni s u L I := ⟨fun x hx => (h.1 x hx).trans (k.1 x hx), fun x hx => (h.2 x hx).trans (k.2 x hx)⟩
theorem Ni.symm {s t : St} {L I : List Nat} (h : Ni s t L I) : Ni t s L I := ⟨fun x hx => (h.1 x hx).symm, fun x hx => (h.2 x hx).symm⟩
theorem We {s t : St} : ∀ {sl : List Nat}, (∀ x ∈ sl, s.cell x = t.cell x) → He s sl = He t sl
 | [], _ => rfl
 | i :: r, h => by
  simp only [He]
  rw [h i (by simp), We (fun x hx => h x (by simp [hx]))]
theorem Oh {s t : St} : ∀ {l : List Nat}, (∀ x ∈ l, s.res x = t.res x) → I1 s l = I1 t l
 | [], _ => rfl
 | i :: r, h => by
  simp only [I1]
  rw [h i (by simp), Oh (fun x hx => h x (by simp [hx]))]
theorem Afq {s t : St} {sl : List Nat} (h1 : ∀ x ∈ sl, s.cell x = t.cell x) (h2 : ∀ id ∈ z7 s sl, s.res id = t.res id) : z7 t sl = z7 s sl := by
 unfold z7 at h2 ⊢
 dsimp only at h2 ⊢
 rw [← We h1]
 have e1 : I1 t (He s sl) = I1 s (He s sl) := (Oh (fun x hx => h2 x (List.mem_append_left _ (List.mem_append_left _ hx)))).symm
 rw [e1]
 have e2 : I1 t (He s sl ++ I1 s (He s sl)) = I1 s (He s sl ++ I1 s (He s sl)) := (Oh (fun x hx => h2 x (List.mem_append_left _ hx))).symm
 rw [e2]
theorem Vu {s t : St} : ∀ {l : List Nat}, (∀ x ∈ l, s.res x = t.res x) → l5 s l = l5 t l
 | [], _ => rfl
 | i :: r, h => by
  simp only [l5]
  rw [h i (by simp), Vu (fun x hx => h x (by simp [hx]))]
theorem Aji {s t : St} {o : Oper} (h1 : ∀ x ∈ Ea o, s.cell x = t.cell x) (h2 : ∀ id ∈ Vq s o, s.res id = t.res id) : Vq t o = Vq s o := by
 unfold Vq at h2 ⊢
 split
 ·rename_i hq
  rw [if_pos hq] at h2
  exact Afq h1 h2
 ·rename_i hq
  rw [if_neg hq] at h2
  have h3 : ∀ id ∈ z7 s (Ea o), s.res id = t.res id := fun id q => h2 id (List.mem_append_left _ q)
  rw [Afq h1 h3, ← Vu h3]
theorem Amh {s t : St} {o : Oper} {m : List Nat} (h : ∀ id ∈ m, s.res id = t.res id) : Px o t m = Px o s m := by
 unfold Px
 rw [Oh h, Vu h]
theorem Aah {s t : St} : ∀ {k nid : Nat}, (∀ id, nid ≤ id → id < nid + k → s.res id = t.res id) → Nk t nid k = Nk s nid k
 | 0, _, _ => rfl
 | k + 1, nid, h => by
  simp only [Nk]
  rw [h nid (Nat.le_refl _) (by omega), Aah (fun id q1 q2 => h id (by omega) (by omega))]
theorem Aui {s t : St} {sl ids : List Nat} (h1 : ∀ x ∈ sl, s.cell x = t.cell x) (h2 : ∀ id ∈ ids, s.res id = t.res id) : t.view sl ids = s.view sl ids := by
 refine St.ext' (fun i => ?_) (fun id => ?_)
 ·show (if Kr sl i then t.cell i else .dead) = (if Kr sl i then s.cell i else .dead)
  split
  ·rename_i q; rw [h1 i (Ed.1 q)]
  ·rfl
 ·show (if Kr ids id then t.res id else .unborn) = (if Kr ids id then s.res id else .unborn)
  split
  ·rename_i q; rw [h2 id (Ed.1 q)]
  ·rfl
theorem Arx {s t : St} {nid : Nat} {o : Oper} (h1 : ∀ x ∈ Ea o, s.cell x = t.cell x) (h2 : ∀ id ∈ Vq s o ++ O5 nid, s.res id = t.res id) : Aaa P sigs t nid o = Aaa P sigs s nid o := by
 have h3 : ∀ id ∈ Vq s o, s.res id = t.res id := fun id q => h2 id (List.mem_append_left _ q)
 unfold Aaa
 dsimp only
 rw [Aji h1 h3, Aui h1 h3, ← Amh h3, Aah (s := s) (t := t) (fun id q1 q2 => h2 id (List.mem_append_right _ (by
  simp only [O5, List.mem_cons, List.not_mem_nil, or_false, Agp] at q2 ⊢
  omega)))]
theorem Auj {s t : St} {o : Oper} {j : Nat} {want : Bool} (hg : o.guard = some (j, want)) (h : ∀ x ∈ Aru ops o, s.cell x = t.cell x) : Auh t ops j = Auh s ops j := by
 unfold Aru at h
 rw [hg] at h
 simp only at h
 unfold Auh
 split
 ·rename_i oj hoj
  rw [hoj] at h
  simp only at h
  split
  ·rename_i d hd
   rw [hd] at h
   simp only [List.mem_cons, List.not_mem_nil, or_false, forall_eq] at h
   rw [h]
  ·rfl
 ·rfl
theorem c9 {s t : St} {o : Oper} (h : ∀ x ∈ Aru ops o, s.cell x = t.cell x) : Kb t ops o = Kb s ops o := by
 unfold Kb
 split
 ·rfl
 ·rename_i j want hg
  rw [Auj hg h]
theorem Axa.local {s t : St} {e : Ent} (h : Axa P sigs ops s e) (ha : Ni s t (e.looks ops) e.ids) : Axa P sigs ops t e := by
 have hg : ∀ x ∈ Aru ops e.o, s.cell x = t.cell x := fun x hx => ha.1 x (List.mem_append_right _ hx)
 rcases h with ⟨h1, av, v, h2, h3⟩ | ⟨h1, h2⟩
 ·left
  have hrun : e.run = true := by rw [h3]; rfl
  have hids : e.ids = Vq s e.o ++ O5 e.nid := by rw [h3]; rfl
  have c1 : ∀ x ∈ Ea e.o, s.cell x = t.cell x := fun x hx => ha.1 x (List.mem_append_left _ (by rw [hrun]; exact hx))
  have c2 : ∀ id ∈ Vq s e.o ++ O5 e.nid, s.res id = t.res id := fun id hid => ha.2 id (by rw [hids]; exact hid)
  refine ⟨by rw [c9 hg]; exact h1, av, v, by rw [Arx c1 c2]; exact h2, ?_⟩
  have : Xn t e.nid e.o av v = Xn s e.nid e.o av v := by
   unfold Xn
   rw [Aji c1 (fun id hid => c2 id (List.mem_append_left _ hid))]
  rw [this]
  exact h3
 ·exact .inr ⟨by rw [c9 hg]; exact h1, h2⟩
theorem Ajj {D : Nat → Bool} {e : Ent} : ∀ {tr : List Ent} {k : Nat} {s : St}, (∀ j f, tr[j]? = some f → D (k + j) = true → Nm P ops e f = true) → Vr P n D k tr (e.app P n s) = e.app P n (Vr P n D k tr s)
 | [], _, _, _ => rfl
 | f :: r, k, s, h => by
  simp only [Vr]
  have h' : ∀ j f', r[j]? = some f' → D (k + 1 + j) = true → Nm P ops e f' = true := fun j f' h1 h2 => h (j + 1) f' (by simpa using h1) (by rw [← h2]; congr 1; omega)
  split
  ·rename_i hD
   rw [Ayt (h 0 f rfl hD), Ajj h']
  ·exact Ajj h'
theorem Adj {D D' : Nat → Bool} : ∀ {tr : List Ent} {k : Nat} {s : St}, (∀ j, j < tr.length → D (k + j) = D' (k + j)) → Vr P n D k tr s = Vr P n D' k tr s
 | [], _, _, _ => rfl
 | f :: r, k, s, h => by
  simp only [Vr]
  have h0 : D k = D' k := h 0 (by simp)
  rw [h0]
  exact Adj (fun j hj => by have := h (j + 1) (by simpa using hj); rw [show k + 1 + j = k + (j + 1) by omega]; exact this)
theorem Avy {D D' : Nat → Bool} {e : Ent} : ∀ {tr : List Ent} {k i : Nat} {s : St}, tr[i]? = some e → D (k + i) = false → D' (k + i) = true → (∀ j, j ≠ i → D' (k + j) = D (k + j)) →
  (∀ j f, i < j → tr[j]? = some f → D (k + j) = true → Nm P ops e f = true) → Vr P n D' k tr s = e.app P n (Vr P n D k tr s)
 | [], _, _, _, h, _, _, _, _ => by simp at h
 | f :: r, k, 0, s, h, h1, h2, h3, h4 => by
  simp at h
  subst h
  simp only [Vr]
  have h1' : D k = false := h1
  have h2' : D' k = true := h2
  rw [h1', h2']
  simp only [if_true, Bool.false_eq_true, if_false]
  rw [Adj (D := D') (D' := D) (fun j hj => by have := h3 (j + 1) (by omega); rw [show k + 1 + j = k + (j + 1) by omega]; exact this)]
  exact Ajj (fun j f' q1 q2 => h4 (j + 1) f' (by omega) (by simpa using q1) (by rw [← q2]; congr 1; omega))
 | f :: r, k, i + 1, s, h, h1, h2, h3, h4 => by
  simp only [Vr]
  have h0 : D' k = D k := h3 0 (by omega)
  rw [h0]
  refine Avy (i := i) (by simpa using h) (by rw [← h1]; congr 1; omega) (by rw [← h2]; congr 1; omega) (fun j hj => ?_) (fun j f' q1 q2 q3 => ?_)
  ·have := h3 (j + 1) (by omega)
   rw [show k + 1 + j = k + (j + 1) by omega]
   exact this
  ·exact h4 (j + 1) f' (by omega) (by simpa using q2) (by rw [← q3]; congr 1; omega)
theorem Adk {D : Nat → Bool} {e : Ent} : ∀ {tr : List Ent} {k i : Nat} {s t : St}, Ni s t (e.looks ops) e.ids →
  (∀ j f, tr[j]? = some f → j < i → D (k + j) = false → Ans P ops f e) → (∀ j f, tr[j]? = some f → i ≤ j → D (k + j) = true → Ans P ops f e) →
  Ni (Vr P n D k tr s) (Vr P n (fun _ => true) k (tr.take i) t) (e.looks ops) e.ids
 | [], k, i, s, t, h, _, _ => by simpa [Vr] using h
 | f :: r, k, 0, s, t, h, h1, h2 => by
  simp only [Vr, List.take_zero]
  have ih : ∀ s', Ni s' t (e.looks ops) e.ids → Ni (Vr P n D (k + 1) r s') t (e.looks ops) e.ids := fun s' q => by
   have := Adk (D := D) (tr := r) (k := k + 1) (i := 0) q (fun j f' q1 q2 => by omega) (fun j f' q1 _ q3 => h2 (j + 1) f' (by simpa using q1) (by omega) (by rw [← q3]; congr 1; omega))
   simpa [Vr] using this
  split
  ·rename_i hD
   exact ih _ (((h2 0 f rfl (by omega) hD).agree s).trans h)
  ·exact ih _ h
 | f :: r, k, i + 1, s, t, h, h1, h2 => by
  simp only [Vr, List.take_succ_cons, if_true]
  have ih : ∀ s' t', Ni s' t' (e.looks ops) e.ids → Ni (Vr P n D (k + 1) r s') (Vr P n (fun _ => true) (k + 1) (r.take i) t') (e.looks ops) e.ids := fun s' t' q =>
   Adk (D := D) q (fun j f' q1 q2 q3 => h1 (j + 1) f' (by simpa using q1) (by omega) (by rw [← q3]; congr 1; omega)) (fun j f' q1 q2 q3 => h2 (j + 1) f' (by simpa using q1) (by omega) (by rw [← q3]; congr 1; omega))
  split
  ·exact ih _ _ (h.app f)
  ·rename_i hD
   have hD : D k = false := by simpa using hD
   exact ih _ _ (h.trans ((h1 0 f rfl (by omega) hD).agree t).symm)
theorem l6.get : ∀ {tr : List Ent} {k i : Nat} {s : St} {e : Ent}, l6 P sigs ops n tr s → tr[i]? = some e → Axa P sigs ops (Vr P n (fun _ => true) k (tr.take i) s) e
 | [], _, _, _, _, _, h => by simp at h
 | f :: r, k, 0, s, e, h, hi => by
  simp at hi
  subst hi
  simpa [Vr] using h.1
 | f :: r, k, i + 1, s, e, h, hi => by
  simp only [List.take_succ_cons, Vr, if_true]
  exact l6.get h.2 (by simpa using hi)
def Ayu (tr : List Ent) (D : Nat → Prop) : Prop := ∀ k e, tr[k]? = some e → D k → ∀ p ∈ R5 e.o, D p
def Bef (tr : List Ent) (i : Nat) (e : Ent) : Prop := ∀ D, Ayu tr D → (∀ p ∈ R5 e.o, D p) → D i
theorem Ant {ancs : List Nat} {i : Nat} : ∀ {ps : List Nat}, (Afp ancs ps).testBit i = true → ∃ p ∈ ps, p = i ∨ (ancs.getD p 0).testBit i = true
 | [], h => by simp [Afp] at h
 | p :: r, h => by
  simp only [Afp, Nat.testBit_or, Bool.or_eq_true] at h
  rcases h with (h | h) | h
  ·refine ⟨p, by simp, .inl ?_⟩
   rw [Nat.one_shiftLeft, Nat.testBit_two_pow] at h
   simpa using h
  ·exact ⟨p, by simp, .inr h⟩
  ·obtain ⟨q, h1, h2⟩ := Ant h
   exact ⟨q, by simp [h1], h2⟩
theorem Ajk {A : Nat} {e : Ent} : ∀ {l : List Ent} {k : Nat}, Ajh P ops A e k l = true → ∀ j f, l[j]? = some f → A.testBit (k + j) = true ∨ Nm P ops f e = true
 | [], _, _, j, f, hj => by simp at hj
 | d :: r, k, h, 0, f, hj => by
  simp at hj
  subst hj
  simp only [Ajh, Bool.and_eq_true, Bool.or_eq_true] at h
  exact h.1
 | d :: r, k, h, j + 1, f, hj => by
  simp only [Ajh, Bool.and_eq_true, Bool.or_eq_true] at h
  have := Ajk h.2 j f (by simpa using hj)
  rw [show k + (j + 1) = k + 1 + j by omega]
  exact this
theorem Ary {tr : List Ent} : ∀ {rest done : List Ent} {ancs : List Nat}, tr = done ++ rest → ancs.length = done.length → Axb P ops done.length done ancs rest = true →
  (∀ k e x, done[k]? = some e → (ancs.getD k 0).testBit x = true → Bef tr x e) →
  (∀ i j e f, tr[i]? = some e → tr[j]? = some f → i < j → j < done.length → Bef tr i f ∨ Nm P ops e f = true) →
  (∀ j f, tr[j]? = some f → j < done.length → ∀ p ∈ R5 f.o, p < j) →
  (∀ i j e f, tr[i]? = some e → tr[j]? = some f → i < j → Bef tr i f ∨ Nm P ops e f = true) ∧ (∀ j f, tr[j]? = some f → ∀ p ∈ R5 f.o, p < j)
 | [], done, ancs, h, _, _, _, h3, h4 => by
  subst h
  rw [List.append_nil]
  refine ⟨fun i j e f h1 h2 h5 => ?_, fun j f h1 => ?_⟩
  ·have := h3 i j e f (by rw [List.append_nil]; exact h1) (by rw [List.append_nil]; exact h2) h5 (List.getElem?_eq_some_iff.1 h2).1
   rwa [List.append_nil] at this
  ·exact h4 j f (by rw [List.append_nil]; exact h1) (List.getElem?_eq_some_iff.1 h1).1
 | e :: rest, done, ancs, h, hl, hok, h2, h3, h4 => by
  simp only [Axb, Bool.and_eq_true] at hok
  obtain ⟨k1, k2, k3⟩ := hok
  have hget : tr[done.length]? = some e := by rw [h]; simp
  have hbef : ∀ x, (Afp ancs (R5 e.o)).testBit x = true → Bef tr x e := by
   intro x hx D hD hp
   obtain ⟨p, q1, q2⟩ := Ant hx
   rcases q2 with rfl | q2
   ·exact hp _ q1
   ·have hpl : p < done.length := Anr.1 k1 p q1
    have hpe : done[p]? = some done[p] := List.getElem?_eq_getElem hpl
    have hpt : tr[p]? = some done[p] := by rw [h, List.getElem?_append_left hpl]; exact hpe
    exact h2 p _ x hpe q2 D hD (hD p _ hpt (hp p q1))
  have hlen : (done ++ [e]).length = done.length + 1 := by simp
  refine Ary (rest := rest) (done := done ++ [e]) (ancs := ancs ++ [Afp ancs (R5 e.o)]) (by rw [h]; simp) (by simp [hl]) (by rw [hlen]; exact k3) ?_ ?_ ?_
  ·intro k f x hk hx
   by_cases q : k < done.length
   ·rw [List.getElem?_append_left q] at hk
    refine h2 k f x hk ?_
    rw [List.getD_eq_getElem?_getD, List.getElem?_append_left (by omega), ← List.getD_eq_getElem?_getD] at hx
    exact hx
   ·have hkl := (List.getElem?_eq_some_iff.1 hk).1
    have hke : k = done.length := by simp at hkl; omega
    subst hke
    simp at hk
    subst hk
    rw [List.getD_eq_getElem?_getD, ← hl] at hx
    simp at hx
    exact hbef x hx
  ·intro i j f f' q1 q2 q3 q4
   by_cases q : j < done.length
   ·exact h3 i j f f' q1 q2 q3 q
   ·have : j = done.length := by simp at q4; omega
    subst this
    rw [hget] at q2
    cases q2
    have hi : done[i]? = some f := by rw [h, List.getElem?_append_left q3] at q1; exact q1
    rcases Ajk k2 i f hi with q5 | q5
    ·exact .inl (hbef i (by simpa using q5))
    ·exact .inr q5
  ·intro j f q1 q2
   by_cases q : j < done.length
   ·exact h4 j f q1 q
   ·have : j = done.length := by simp at q2; omega
    subst this
    rw [hget] at q1
    cases q1
    exact Anr.1 k1
end
end Go.Proofs.YteaoabdlcefkhaaGreat.R

