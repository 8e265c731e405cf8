/- A region whose order is drawn: every order leads to the same. No condition. -/
import Derived.Test.YteaoabdlcefkhaaGreatRRegion
namespace Go.Proofs.YteaoabdlcefkhaaGreat.R
open Go Go.RowKit
set_option linter.unusedVariables false
set_option linter.unusedSimpArgs false
structure Ent where
 o : Oper
 nid : Nat
 run : Bool
 ids : List Nat
 av : AV
 res : Nat → Res
def Ent.quiet (P : Program) (e : Ent) : Bool := !e.run || Aef P e.o
def Ent.app (P : Program) (n : Nat) (e : Ent) (s : St) : St := St.put n (if e.quiet P then s else ⟨s.cell, fun id => if Hw e.ids id then e.res id else s.res id⟩) e.o.dst e.av
def Ai6 (ops : Array Oper) (o : Oper) : List Nat := match o.guard with
 | some (j, _) => match ops[j]? with
  | some oj => match oj.dst with
   | some d => [d]
   | none => []
  | none => []
 | none => []
def Ent.looks (ops : Array Oper) (e : Ent) : List Nat := (if e.run then Cx e.o else []) ++ Ai6 ops e.o
def R1 (s : St) (nid : Nat) (o : Oper) (av : AV) (v : St) : Ent := ⟨o, nid, true, Qf s o ++ K8 nid, av, v.res⟩
def Wp (nid : Nat) (o : Oper) : Ent := ⟨o, nid, false, [], .tp [], fun _ => .unborn⟩
def Ant (P : Program) (sigs : Tb) (ops : Array Oper) (s : St) (e : Ent) : Prop :=
 (Hk s ops e.o = some true ∧ ∃ av v, Wk P sigs s e.nid e.o = some (av, v) ∧ e = R1 s e.nid e.o av v) ∨ (Hk s ops e.o = some false ∧ e = Wp e.nid e.o)
def U4 (P : Program) (sigs : Tb) (ops : Array Oper) (n : Nat) : List Ent → St → Prop
 | [], _ => True
 | e :: r, s => Ant P sigs ops s e ∧ U4 P sigs ops n r (e.app P n s)
def Qg (P : Program) (n : Nat) (D : Nat → Bool) : Nat → List Ent → St → St
 | _, [], s => s
 | i, e :: r, s => Qg P n D (i + 1) r (if D i then e.app P n s else s)
def Ahe (o : Oper) (l : List Nat) : Bool := match o.dst with
 | some d => Hw l d
 | none => false
def Amp (o o' : Oper) : Bool := match o.dst, o'.dst with
 | some d, some d' => Nat.beq d d'
 | _, _ => false
def Ai7 (l m : List Nat) : Bool := match l with
 | [] => false
 | i :: r => Hw m i || Ai7 r m
def J7 (P : Program) (ops : Array Oper) (e f : Ent) : Bool :=
 !Ahe e.o (f.looks ops) && !Ahe f.o (e.looks ops) && !Amp e.o f.o && ((e.quiet P && f.quiet P) || !Ai7 e.ids f.ids)
def Ng (o : Oper) : List Nat := (o.after.toList.filter fun e => Region.binds .any e).map (·.on)
def i6 (ancs : List Nat) : List Nat → Nat
 | [] => 0
 | p :: r => ((1 <<< p) ||| (ancs.getD p 0)) ||| i6 ancs r
def Aby (P : Program) (ops : Array Oper) (A : Nat) (e : Ent) : Nat → List Ent → Bool
 | _, [] => true
 | k, d :: r => (A.testBit k || J7 P ops d e) && Aby P ops A e (k + 1) r
def Ai8 (i : Nat) : List Nat → Bool
 | [] => true
 | p :: r => Nat.blt p i && Ai8 i r
def Anu (P : Program) (ops : Array Oper) : Nat → List Ent → List Nat → List Ent → Bool
 | _, _, _, [] => true
 | i, done, ancs, e :: r => Ai8 i (Ng e.o) && (Aby P ops (i6 ancs (Ng e.o)) e 0 done && Anu P ops (i + 1) (done ++ [e]) (ancs ++ [i6 ancs (Ng e.o)]) r)
section
variable {P : Program} {n B : Nat} {Iq : List Nat} {sigs : Tb} {ops : Array Oper}
theorem Afr {l m : List Nat} : Ai7 l m = false ↔ ∀ i ∈ l, i ∉ m := by
 induction l with
 | nil => simp [Ai7]
 | cons j r ih =>
  simp only [Ai7, Bool.or_eq_false_iff, ih, List.forall_mem_cons]
  constructor
  ·rintro ⟨h1, h2⟩
   exact ⟨fun q => (by rw [C0.2 q] at h1; cases h1), h2⟩
  ·rintro ⟨h1, h2⟩
   refine ⟨?_, h2⟩
   cases hq : Hw m j
   ·rfl
   ·exact absurd (C0.1 hq) h1
theorem Afs {i : Nat} {l : List Nat} : Ai8 i l = true ↔ ∀ p ∈ l, p < i := by
 induction l with
 | nil => simp [Ai8]
 | cons j r ih => simp [Ai8, ih, Nat.blt_eq]
def Aft (P : Program) (ops : Array Oper) (e' e : Ent) : Prop := (∀ d, e'.o.dst = some d → d ∉ e.looks ops) ∧ (e'.quiet P = false → ∀ id ∈ e'.ids, id ∉ e.ids)
theorem Wq {o : Oper} {l : List Nat} (h : Ahe o l = false) : ∀ d, o.dst = some d → d ∉ l := by
 intro d hd q
 unfold Ahe at h
 rw [hd] at h
 simp only at h
 rw [C0.2 q] at h
 cases h
theorem Qh {e f : Ent} (h : J7 P ops e f = true) : Aft P ops e f ∧ Aft P ops f e := by
 simp only [J7, Bool.and_eq_true, Bool.not_eq_true', Bool.or_eq_true] at h
 obtain ⟨⟨⟨h1, h2⟩, h3⟩, h4⟩ := h
 refine ⟨⟨Wq h1, fun q id hid => ?_⟩, ⟨Wq h2, fun q id hid hid' => ?_⟩⟩
 ·rcases h4 with h4 | h4
  ·rw [h4.1] at q; cases q
  ·exact Afr.1 h4 id hid
 ·rcases h4 with h4 | h4
  ·rw [h4.2] at q; cases q
  ·exact Afr.1 h4 id hid' hid
theorem Ao7 (s : St) (d : Option Tmp) (av : AV) (x : Nat) : (s.put n d av).cell x = if (d = some x ∧ Nat.blt x n = true) then av else s.cell x := by
 cases d with
 | none => simp [St.put]
 | some d =>
  unfold St.put
  simp only
  by_cases q : x = d
  ·subst q
   by_cases hn : Nat.blt x n = true
   ·simp [hn, St.setCell]
   ·simp [hn]
  ·have : ¬ (some d = some x ∧ Nat.blt x n = true) := fun h => q (Option.some.inj h.1).symm
   rw [if_neg this]
   split
   ·simp [St.setCell, Ak _ _ q]
   ·rfl
theorem Mb (e : Ent) (s : St) (x : Nat) : (e.app P n s).cell x = if (e.o.dst = some x ∧ Nat.blt x n = true) then e.av else s.cell x := by
 unfold Ent.app
 rw [Ao7]
 split
 ·rfl
 ·split <;> rfl
theorem Qi (e : Ent) (s : St) (id : Nat) : (e.app P n s).res id = if e.quiet P = false ∧ id ∈ e.ids then e.res id else s.res id := by
 unfold Ent.app
 rw [Aar]
 by_cases q : e.quiet P = true
 ·simp [q]
 ·have q : e.quiet P = false := by simpa using q
  simp only [q, Bool.false_eq_true, if_false, true_and]
  by_cases hm : id ∈ e.ids
  ·simp [hm, C0.2 hm]
  ·have : Hw e.ids id = false := by
    cases hq : Hw e.ids id
    ·rfl
    ·exact absurd (C0.1 hq) hm
   simp [hm, this]
theorem St.ext' {s t : St} (h1 : ∀ i, s.cell i = t.cell i) (h2 : ∀ id, s.res id = t.res id) : s = t := by
 obtain ⟨c, r⟩ := s
 obtain ⟨c', r'⟩ := t
 congr
 ·exact funext h1
 ·exact funext h2
theorem Ao8 {e f : Ent} (h : J7 P ops e f = true) (s : St) : f.app P n (e.app P n s) = e.app P n (f.app P n s) := by
 have hd : ∀ d, e.o.dst = some d → f.o.dst ≠ some d := by
  intro d h1 h2
  simp only [J7, Bool.and_eq_true, Bool.not_eq_true'] at h
  have := h.1.2
  unfold Amp at this
  rw [h1, h2] at this
  simp at this
 have hr : ∀ id, e.quiet P = false → id ∈ e.ids → ¬ (f.quiet P = false ∧ id ∈ f.ids) := fun id q1 q2 q3 => (Qh h).1.2 q1 id q2 q3.2
 refine St.ext' (fun i => ?_) (fun id => ?_)
 ·rw [Mb, Mb, Mb, Mb]
  by_cases h1 : e.o.dst = some i ∧ Nat.blt i n = true
  ·have h2 : ¬ (f.o.dst = some i ∧ Nat.blt i n = true) := fun q => hd i h1.1 q.1
   rw [if_neg h2, if_pos h1, if_pos h1]
  ·rw [if_neg h1, if_neg h1]
 ·rw [Qi, Qi, Qi, Qi]
  by_cases h1 : e.quiet P = false ∧ id ∈ e.ids
  ·rw [if_neg (hr id h1.1 h1.2), if_pos h1, if_pos h1]
  ·rw [if_neg h1, if_neg h1]
def J1 (s t : St) (L I : List Nat) : Prop := (∀ x ∈ L, s.cell x = t.cell x) ∧ ∀ id ∈ I, s.res id = t.res id
theorem J1.app {s t : St} {L I : List Nat} (h : J1 s t L I) (e : Ent) : J1 (e.app P n s) (e.app P n t) L I := by
 refine ⟨fun x hx => ?_, fun id hid => ?_⟩
 ·rw [Mb, Mb, h.1 x hx]
 ·rw [Qi, Qi, h.2 id hid]
theorem Aft.agree {e' e : Ent} (h : Aft P ops e' e) (s : St) : J1 (e'.app P n s) s (e.looks ops) e.ids := by
 refine ⟨fun x hx => ?_, fun id hid => ?_⟩
 ·rw [Mb, if_neg (fun q => h.1 x q.1 hx)]
 ·rw [Qi, if_neg (fun q => h.2 q.1 id q.2 hid)]
theorem J1.trans {s t u : St} {L I : List Nat} (h : J1 s t L I) (k : J1 t u L I) : J1 s u L I := ⟨fun x hx => (h.1 x hx).trans (k.1 x hx), fun x hx => (h.2 x hx).trans (k.2 x hx)⟩
theorem J1.symm {s t : St} {L I : List Nat} (h : J1 s t L I) : J1 t s L I := ⟨fun x hx => (h.1 x hx).symm, fun x hx => (h.2 x hx).symm⟩
theorem Qv {s t : St} : ∀ {sl : List Nat}, (∀ x ∈ sl, s.cell x = t.cell x) → Fb s sl = Fb t sl
 | [], _ => rfl
 | i :: r, h => by
  simp only [Fb]
  rw [h i (by simp), Qv (fun x hx => h x (by simp [hx]))]
theorem Kr {s t : St} : ∀ {l : List Nat}, (∀ x ∈ l, s.res x = t.res x) → Ga s l = Ga t l
 | [], _ => rfl
 | i :: r, h => by
  simp only [Ga]
  rw [h i (by simp), Kr (fun x hx => h x (by simp [hx]))]
theorem i7 {s t : St} {sl : List Nat} (h1 : ∀ x ∈ sl, s.cell x = t.cell x) (h2 : ∀ id ∈ Wi s sl, s.res id = t.res id) : Wi t sl = Wi s sl := by
 unfold Wi at h2 ⊢
 dsimp only at h2 ⊢
 rw [← Qv h1]
 have e1 : Ga t (Fb s sl) = Ga s (Fb s sl) := (Kr (fun x hx => h2 x (List.mem_append_left _ (List.mem_append_left _ hx)))).symm
 rw [e1]
 have e2 : Ga t (Fb s sl ++ Ga s (Fb s sl)) = Ga s (Fb s sl ++ Ga s (Fb s sl)) := (Kr (fun x hx => h2 x (List.mem_append_left _ hx))).symm
 rw [e2]
theorem Qj {s t : St} : ∀ {l : List Nat}, (∀ x ∈ l, s.res x = t.res x) → U3 s l = U3 t l
 | [], _ => rfl
 | i :: r, h => by
  simp only [U3]
  rw [h i (by simp), Qj (fun x hx => h x (by simp [hx]))]
theorem Abz {s t : St} {o : Oper} (h1 : ∀ x ∈ Cx o, s.cell x = t.cell x) (h2 : ∀ id ∈ Qf s o, s.res id = t.res id) : Qf t o = Qf s o := by
 unfold Qf at h2 ⊢
 split
 ·rename_i hq
  rw [if_pos hq] at h2
  exact i7 h1 h2
 ·rename_i hq
  rw [if_neg hq] at h2
  have h3 : ∀ id ∈ Wi s (Cx o), s.res id = t.res id := fun id q => h2 id (List.mem_append_left _ q)
  rw [i7 h1 h3, ← Qj h3]
theorem Aeg {s t : St} {o : Oper} {m : List Nat} (h : ∀ id ∈ m, s.res id = t.res id) : Lz o t m = Lz o s m := by
 unfold Lz
 rw [Kr h, Qj h]
theorem Ws {s t : St} : ∀ {k nid : Nat}, (∀ id, nid ≤ id → id < nid + k → s.res id = t.res id) → J4 t nid k = J4 s nid k
 | 0, _, _ => rfl
 | k + 1, nid, h => by
  simp only [J4]
  rw [h nid (Nat.le_refl _) (by omega), Ws (fun id q1 q2 => h id (by omega) (by omega))]
theorem Alb {s t : St} {sl ids : List Nat} (h1 : ∀ x ∈ sl, s.cell x = t.cell x) (h2 : ∀ id ∈ ids, s.res id = t.res id) : t.view sl ids = s.view sl ids := by
 refine St.ext' (fun i => ?_) (fun id => ?_)
 ·show (if Hw sl i then t.cell i else .dead) = (if Hw sl i then s.cell i else .dead)
  split
  ·rename_i q; rw [h1 i (C0.1 q)]
  ·rfl
 ·show (if Hw ids id then t.res id else .unborn) = (if Hw ids id then s.res id else .unborn)
  split
  ·rename_i q; rw [h2 id (C0.1 q)]
  ·rfl
theorem Ai9 {s t : St} {nid : Nat} {o : Oper} (h1 : ∀ x ∈ Cx o, s.cell x = t.cell x) (h2 : ∀ id ∈ Qf s o ++ K8 nid, s.res id = t.res id) : Wk P sigs t nid o = Wk P sigs s nid o := by
 have h3 : ∀ id ∈ Qf s o, s.res id = t.res id := fun id q => h2 id (List.mem_append_left _ q)
 unfold Wk
 dsimp only
 rw [Abz h1 h3, Alb h1 h3, ← Aeg h3, Ws (s := s) (t := t) (fun id q1 q2 => h2 id (List.mem_append_right _ (by
  simp only [K8, List.mem_cons, List.not_mem_nil, or_false, m7] at q2 ⊢
  omega)))]
theorem Alc {s t : St} {o : Oper} {j : Nat} {want : Bool} (hg : o.guard = some (j, want)) (h : ∀ x ∈ Ai6 ops o, s.cell x = t.cell x) : Ala t ops j = Ala s ops j := by
 unfold Ai6 at h
 rw [hg] at h
 simp only at h
 unfold Ala
 split
 ·rename_i oj hoj
  rw [hoj] at h
  simp only at h
  split
  ·rename_i d hd
   rw [hd] at h
   simp only [List.mem_cons, List.not_mem_nil, or_false, forall_eq] at h
   rw [h]
  ·rfl
 ·rfl
theorem Ub {s t : St} {o : Oper} (h : ∀ x ∈ Ai6 ops o, s.cell x = t.cell x) : Hk t ops o = Hk s ops o := by
 unfold Hk
 split
 ·rfl
 ·rename_i j want hg
  rw [Alc hg h]
theorem Ant.local {s t : St} {e : Ent} (h : Ant P sigs ops s e) (ha : J1 s t (e.looks ops) e.ids) : Ant P sigs ops t e := by
 have hg : ∀ x ∈ Ai6 ops e.o, s.cell x = t.cell x := fun x hx => ha.1 x (List.mem_append_right _ hx)
 rcases h with ⟨h1, av, v, h2, h3⟩ | ⟨h1, h2⟩
 ·left
  have hrun : e.run = true := by rw [h3]; rfl
  have hids : e.ids = Qf s e.o ++ K8 e.nid := by rw [h3]; rfl
  have c1 : ∀ x ∈ Cx e.o, s.cell x = t.cell x := fun x hx => ha.1 x (List.mem_append_left _ (by rw [hrun]; exact hx))
  have c2 : ∀ id ∈ Qf s e.o ++ K8 e.nid, s.res id = t.res id := fun id hid => ha.2 id (by rw [hids]; exact hid)
  refine ⟨by rw [Ub hg]; exact h1, av, v, by rw [Ai9 c1 c2]; exact h2, ?_⟩
  have : R1 t e.nid e.o av v = R1 s e.nid e.o av v := by
   unfold R1
   rw [Abz c1 (fun id hid => c2 id (List.mem_append_left _ hid))]
  rw [this]
  exact h3
 ·exact .inr ⟨by rw [Ub hg]; exact h1, h2⟩
theorem Ab0 {D : Nat → Bool} {e : Ent} : ∀ {tr : List Ent} {k : Nat} {s : St}, (∀ j f, tr[j]? = some f → D (k + j) = true → J7 P ops e f = true) → Qg P n D k tr (e.app P n s) = e.app P n (Qg P n D k tr s)
 | [], _, _, _ => rfl
 | f :: r, k, s, h => by
  simp only [Qg]
  have h' : ∀ j f', r[j]? = some f' → D (k + 1 + j) = true → J7 P ops e f' = true := fun j f' h1 h2 => h (j + 1) f' (by simpa using h1) (by rw [← h2]; congr 1; omega)
  split
  ·rename_i hD
   rw [Ao8 (h 0 f rfl hD), Ab0 h']
  ·exact Ab0 h'
theorem Y9 {D D' : Nat → Bool} : ∀ {tr : List Ent} {k : Nat} {s : St}, (∀ j, j < tr.length → D (k + j) = D' (k + j)) → Qg P n D k tr s = Qg P n D' k tr s
 | [], _, _, _ => rfl
 | f :: r, k, s, h => by
  simp only [Qg]
  have h0 : D k = D' k := h 0 (by simp)
  rw [h0]
  exact Y9 (fun j hj => by have := h (j + 1) (by simpa using hj); rw [show k + 1 + j = k + (j + 1) by omega]; exact this)
theorem Amq {D D' : Nat → Bool} {e : Ent} : ∀ {tr : List Ent} {k i : Nat} {s : St}, tr[i]? = some e → D (k + i) = false → D' (k + i) = true → (∀ j, j ≠ i → D' (k + j) = D (k + j)) →
  (∀ j f, i < j → tr[j]? = some f → D (k + j) = true → J7 P ops e f = true) → Qg P n D' k tr s = e.app P n (Qg P n D k tr s)
 | [], _, _, _, h, _, _, _, _ => by simp at h
 | f :: r, k, 0, s, h, h1, h2, h3, h4 => by
  simp at h
  subst h
  simp only [Qg]
  have h1' : D k = false := h1
  have h2' : D' k = true := h2
  rw [h1', h2']
  simp only [if_true, Bool.false_eq_true, if_false]
  rw [Y9 (D := D') (D' := D) (fun j hj => by have := h3 (j + 1) (by omega); rw [show k + 1 + j = k + (j + 1) by omega]; exact this)]
  exact Ab0 (fun j f' q1 q2 => h4 (j + 1) f' (by omega) (by simpa using q1) (by rw [← q2]; congr 1; omega))
 | f :: r, k, i + 1, s, h, h1, h2, h3, h4 => by
  simp only [Qg]
  have h0 : D' k = D k := h3 0 (by omega)
  rw [h0]
  refine Amq (i := i) (by simpa using h) (by rw [← h1]; congr 1; omega) (by rw [← h2]; congr 1; omega) (fun j hj => ?_) (fun j f' q1 q2 q3 => ?_)
  ·have := h3 (j + 1) (by omega)
   rw [show k + 1 + j = k + (j + 1) by omega]
   exact this
  ·exact h4 (j + 1) f' (by omega) (by simpa using q2) (by rw [← q3]; congr 1; omega)
theorem Za {D : Nat → Bool} {e : Ent} : ∀ {tr : List Ent} {k i : Nat} {s t : St}, J1 s t (e.looks ops) e.ids →
  (∀ j f, tr[j]? = some f → j < i → D (k + j) = false → Aft P ops f e) → (∀ j f, tr[j]? = some f → i ≤ j → D (k + j) = true → Aft P ops f e) →
  J1 (Qg P n D k tr s) (Qg P n (fun _ => true) k (tr.take i) t) (e.looks ops) e.ids
 | [], k, i, s, t, h, _, _ => by simpa [Qg] using h
 | f :: r, k, 0, s, t, h, h1, h2 => by
  simp only [Qg, List.take_zero]
  have ih : ∀ s', J1 s' t (e.looks ops) e.ids → J1 (Qg P n D (k + 1) r s') t (e.looks ops) e.ids := fun s' q => by
   have := Za (D := D) (tr := r) (k := k + 1) (i := 0) q (fun j f' q1 q2 => by omega) (fun j f' q1 _ q3 => h2 (j + 1) f' (by simpa using q1) (by omega) (by rw [← q3]; congr 1; omega))
   simpa [Qg] using this
  split
  ·rename_i hD
   exact ih _ (((h2 0 f rfl (by omega) hD).agree s).trans h)
  ·exact ih _ h
 | f :: r, k, i + 1, s, t, h, h1, h2 => by
  simp only [Qg, List.take_succ_cons, if_true]
  have ih : ∀ s' t', J1 s' t' (e.looks ops) e.ids → J1 (Qg P n D (k + 1) r s') (Qg P n (fun _ => true) (k + 1) (r.take i) t') (e.looks ops) e.ids := fun s' t' q =>
   Za (D := D) q (fun j f' q1 q2 q3 => h1 (j + 1) f' (by simpa using q1) (by omega) (by rw [← q3]; congr 1; omega)) (fun j f' q1 q2 q3 => h2 (j + 1) f' (by simpa using q1) (by omega) (by rw [← q3]; congr 1; omega))
  split
  ·exact ih _ _ (h.app f)
  ·rename_i hD
   have hD : D k = false := by simpa using hD
   exact ih _ _ (h.trans ((h1 0 f rfl (by omega) hD).agree t).symm)
theorem U4.get : ∀ {tr : List Ent} {k i : Nat} {s : St} {e : Ent}, U4 P sigs ops n tr s → tr[i]? = some e → Ant P sigs ops (Qg P n (fun _ => true) k (tr.take i) s) e
 | [], _, _, _, _, _, h => by simp at h
 | f :: r, k, 0, s, e, h, hi => by
  simp at hi
  subst hi
  simpa [Qg] using h.1
 | f :: r, k, i + 1, s, e, h, hi => by
  simp only [List.take_succ_cons, Qg, if_true]
  exact U4.get h.2 (by simpa using hi)
def Ao9 (tr : List Ent) (D : Nat → Prop) : Prop := ∀ k e, tr[k]? = some e → D k → ∀ p ∈ Ng e.o, D p
def Bef (tr : List Ent) (i : Nat) (e : Ent) : Prop := ∀ D, Ao9 tr D → (∀ p ∈ Ng e.o, D p) → D i
theorem Afu {ancs : List Nat} {i : Nat} : ∀ {ps : List Nat}, (i6 ancs ps).testBit i = true → ∃ p ∈ ps, p = i ∨ (ancs.getD p 0).testBit i = true
 | [], h => by simp [i6] at h
 | p :: r, h => by
  simp only [i6, Nat.testBit_or, Bool.or_eq_true] at h
  rcases h with (h | h) | h
  ·refine ⟨p, by simp, .inl ?_⟩
   rw [Nat.one_shiftLeft, Nat.testBit_two_pow] at h
   simpa using h
  ·exact ⟨p, by simp, .inr h⟩
  ·obtain ⟨q, h1, h2⟩ := Afu h
   exact ⟨q, by simp [h1], h2⟩
theorem Ab1 {A : Nat} {e : Ent} : ∀ {l : List Ent} {k : Nat}, Aby P ops A e k l = true → ∀ j f, l[j]? = some f → A.testBit (k + j) = true ∨ J7 P ops f e = true
 | [], _, _, j, f, hj => by simp at hj
 | d :: r, k, h, 0, f, hj => by
  simp at hj
  subst hj
  simp only [Aby, Bool.and_eq_true, Bool.or_eq_true] at h
  exact h.1
 | d :: r, k, h, j + 1, f, hj => by
  simp only [Aby, Bool.and_eq_true, Bool.or_eq_true] at h
  have := Ab1 h.2 j f (by simpa using hj)
  rw [show k + (j + 1) = k + 1 + j by omega]
  exact this
theorem Aja {tr : List Ent} : ∀ {rest done : List Ent} {ancs : List Nat}, tr = done ++ rest → ancs.length = done.length → Anu P ops done.length done ancs rest = true →
  (∀ k e x, done[k]? = some e → (ancs.getD k 0).testBit x = true → Bef tr x e) →
  (∀ i j e f, tr[i]? = some e → tr[j]? = some f → i < j → j < done.length → Bef tr i f ∨ J7 P ops e f = true) →
  (∀ j f, tr[j]? = some f → j < done.length → ∀ p ∈ Ng f.o, p < j) →
  (∀ i j e f, tr[i]? = some e → tr[j]? = some f → i < j → Bef tr i f ∨ J7 P ops e f = true) ∧ (∀ j f, tr[j]? = some f → ∀ p ∈ Ng f.o, p < j)
 | [], done, ancs, h, _, _, _, h3, h4 => by
  subst h
  rw [List.append_nil]
  refine ⟨fun i j e f h1 h2 h5 => ?_, fun j f h1 => ?_⟩
  ·have := h3 i j e f (by rw [List.append_nil]; exact h1) (by rw [List.append_nil]; exact h2) h5 (List.getElem?_eq_some_iff.1 h2).1
   rwa [List.append_nil] at this
  ·exact h4 j f (by rw [List.append_nil]; exact h1) (List.getElem?_eq_some_iff.1 h1).1
 | e :: rest, done, ancs, h, hl, hok, h2, h3, h4 => by
  simp only [Anu, Bool.and_eq_true] at hok
  obtain ⟨k1, k2, k3⟩ := hok
  have hget : tr[done.length]? = some e := by rw [h]; simp
  have hbef : ∀ x, (i6 ancs (Ng e.o)).testBit x = true → Bef tr x e := by
   intro x hx D hD hp
   obtain ⟨p, q1, q2⟩ := Afu hx
   rcases q2 with rfl | q2
   ·exact hp _ q1
   ·have hpl : p < done.length := Afs.1 k1 p q1
    have hpe : done[p]? = some done[p] := List.getElem?_eq_getElem hpl
    have hpt : tr[p]? = some done[p] := by rw [h, List.getElem?_append_left hpl]; exact hpe
    exact h2 p _ x hpe q2 D hD (hD p _ hpt (hp p q1))
  have hlen : (done ++ [e]).length = done.length + 1 := by simp
  refine Aja (rest := rest) (done := done ++ [e]) (ancs := ancs ++ [i6 ancs (Ng e.o)]) (by rw [h]; simp) (by simp [hl]) (by rw [hlen]; exact k3) ?_ ?_ ?_
  ·intro k f x hk hx
   by_cases q : k < done.length
   ·rw [List.getElem?_append_left q] at hk
    refine h2 k f x hk ?_
    rw [List.getD_eq_getElem?_getD, List.getElem?_append_left (by omega), ← List.getD_eq_getElem?_getD] at hx
    exact hx
   ·have hkl := (List.getElem?_eq_some_iff.1 hk).1
    have hke : k = done.length := by simp at hkl; omega
    subst hke
    simp at hk
    subst hk
    rw [List.getD_eq_getElem?_getD, ← hl] at hx
    simp at hx
    exact hbef x hx
  ·intro i j f f' q1 q2 q3 q4
   by_cases q : j < done.length
   ·exact h3 i j f f' q1 q2 q3 q
   ·have : j = done.length := by simp at q4; omega
    subst this
    rw [hget] at q2
    cases q2
    have hi : done[i]? = some f := by rw [h, List.getElem?_append_left q3] at q1; exact q1
    rcases Ab1 k2 i f hi with q5 | q5
    ·exact .inl (hbef i (by simpa using q5))
    ·exact .inr q5
  ·intro j f q1 q2
   by_cases q : j < done.length
   ·exact h4 j f q1 q
   ·have : j = done.length := by simp at q2; omega
    subst this
    rw [hget] at q1
    cases q1
    exact Afs.1 k1
end
end Go.Proofs.YteaoabdlcefkhaaGreat.R

