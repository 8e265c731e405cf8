/- A region whose order is drawn: every order leads to the same. No condition. -/
import Derived.Test.YtkfoebbjncngjaaRRegion
namespace Go.Proofs.Ytkfoebbjncngjaa.R
open Go Go.RowKit
set_option linter.unusedVariables false
set_option linter.unusedSimpArgs false
structure Ent where
 o : Oper
 nid : Nat
 run : Bool
 ids : List Nat
 av : AV
 res : Nat → Res
 wr : List Nat
def Ent.quiet (P : Program) (e : Ent) : Bool := !e.run || Ud P e.o
def Ent.app (P : Program) (n : Nat) (e : Ent) (s : St) : St := St.put n (if e.quiet P then s else ⟨s.cell, fun id => if Dj e.wr id then e.res id else s.res id⟩) e.o.dst e.av
def Xl (ops : Array Oper) (o : Oper) : List Nat := match o.guard with
 | some (j, _) => match ops[j]? with
  | some oj => match oj.dst with
   | some d => [d]
   | none => []
  | none => []
 | none => []
def Ent.looks (ops : Array Oper) (e : Ent) : List Nat := (if e.run then Bf e.o else []) ++ Xl ops e.o
def o8 : List Md → Bool
 | [] => true
 | .rd _ :: r => o8 r
 | _ => false
def wrO (T : Tb) (v : St) (nid : Nat) (o : Oper) (m : List Nat) : List Nat := match o.op with
 | .store _ x _ => (match v.leaf x with
  | some (.ptr id _) => if Dj m id then [id] else m
  | _ => m)
 | .call _ => (match Et o with
  | some (f, _) => (match T.sd f with
   | some sd => if o8 sd.sg.ps && (Cy sd.sg.rs && (Ep sd.sg.ps && Nat.ble (Dm sd.sg.rs) 4)) then Eo nid else m
   | none => m)
  | none => m)
 | _ => m
def Kf (T : Tb) (s : St) (nid : Nat) (o : Oper) (av : AV) (v : St) : Ent := ⟨o, nid, true, G0 s o ++ Eo nid, av, v.res, wrO T (s.view (Bf o) (G0 s o)) nid o (G0 s o ++ Eo nid)⟩
def Nq (nid : Nat) (o : Oper) : Ent := ⟨o, nid, false, [], .tp [], fun _ => .unborn, []⟩
def e9 (P : Program) (sigs : Tb) (ops : Array Oper) (s : St) (e : Ent) : Prop :=
 (Ea s ops e.o = some true ∧ ∃ av v, Lr P sigs s e.nid e.o = some (av, v) ∧ e = Kf sigs s e.nid e.o av v) ∨ (Ea s ops e.o = some false ∧ e = Nq e.nid e.o)
def Mc (P : Program) (sigs : Tb) (ops : Array Oper) (n : Nat) : List Ent → St → Prop
 | [], _ => True
 | e :: r, s => e9 P sigs ops s e ∧ Mc P sigs ops n r (e.app P n s)
def Jg (P : Program) (n : Nat) (D : Nat → Bool) : Nat → List Ent → St → St
 | _, [], s => s
 | i, e :: r, s => Jg P n D (i + 1) r (if D i then e.app P n s else s)
def Wg (o : Oper) (l : List Nat) : Bool := match o.dst with
 | some d => Dj l d
 | none => false
def Zv (o o' : Oper) : Bool := match o.dst, o'.dst with
 | some d, some d' => Nat.beq d d'
 | _, _ => false
def S0 (l m : List Nat) : Bool := match l with
 | [] => false
 | i :: r => Dj m i || S0 r m
def Ew (P : Program) (ops : Array Oper) (e f : Ent) : Bool :=
 !Wg e.o (f.looks ops) && !Wg f.o (e.looks ops) && !Zv e.o f.o && ((e.quiet P || !S0 e.wr f.ids) && (f.quiet P || !S0 f.wr e.ids) && (e.quiet P || f.quiet P || !S0 e.wr f.wr))
def Hq (o : Oper) : List Nat := (o.after.toList.filter fun e => Region.binds .any e).map (·.on)
def Qj (ancs : List Nat) : List Nat → Nat
 | [] => 0
 | p :: r => ((1 <<< p) ||| (ancs.getD p 0)) ||| Qj ancs r
def S1 (P : Program) (ops : Array Oper) (A : Nat) (e : Ent) : Nat → List Ent → Bool
 | _, [] => true
 | k, d :: r => (A.testBit k || Ew P ops d e) && S1 P ops A e (k + 1) r
def Xm (i : Nat) : List Nat → Bool
 | [] => true
 | p :: r => Nat.blt p i && Xm i r
def f4 (P : Program) (ops : Array Oper) : Nat → List Ent → List Nat → List Ent → Bool
 | _, _, _, [] => true
 | i, done, ancs, e :: r => Xm i (Hq e.o) && (S1 P ops (Qj ancs (Hq e.o)) e 0 done && f4 P ops (i + 1) (done ++ [e]) (ancs ++ [Qj ancs (Hq e.o)]) r)
section
variable {P : Program} {n B : Nat} {Iq : List Nat} {sigs : Tb} {ops : Array Oper}
theorem Pc {l m : List Nat} : S0 l m = false ↔ ∀ i ∈ l, i ∉ m := by
 induction l with
 | nil => simp [S0]
 | cons j r ih =>
  simp only [S0, Bool.or_eq_false_iff, ih, List.forall_mem_cons]
  constructor
  ·rintro ⟨h1, h2⟩
   exact ⟨fun q => (by rw [A0.2 q] at h1; cases h1), h2⟩
  ·rintro ⟨h1, h2⟩
   refine ⟨?_, h2⟩
   cases hq : Dj m j
   ·rfl
   ·exact absurd (A0.1 hq) h1
theorem U0 {i : Nat} {l : List Nat} : Xm i l = true ↔ ∀ p ∈ l, p < i := by
 induction l with
 | nil => simp [Xm]
 | cons j r ih => simp [Xm, ih, Nat.blt_eq]
def U1 (P : Program) (ops : Array Oper) (e' e : Ent) : Prop := (∀ d, e'.o.dst = some d → d ∉ e.looks ops) ∧ (e'.quiet P = false → ∀ id ∈ e'.wr, id ∉ e.ids)
theorem Nr {o : Oper} {l : List Nat} (h : Wg o l = false) : ∀ d, o.dst = some d → d ∉ l := by
 intro d hd q
 unfold Wg at h
 rw [hd] at h
 simp only at h
 rw [A0.2 q] at h
 cases h
theorem Ns {e f : Ent} (h : Ew P ops e f = true) : U1 P ops e f ∧ U1 P ops f e := by
 simp only [Ew, Bool.and_eq_true, Bool.not_eq_true', Bool.or_eq_true] at h
 obtain ⟨⟨⟨h1, h2⟩, h3⟩, ⟨h4, h5⟩, _⟩ := h
 refine ⟨⟨Nr h1, fun q id hid => ?_⟩, ⟨Nr h2, fun q id hid => ?_⟩⟩
 ·rcases h4 with h4 | h4
  ·rw [h4] at q; cases q
  ·exact Pc.1 h4 id hid
 ·rcases h5 with h5 | h5
  ·rw [h5] at q; cases q
  ·exact Pc.1 h5 id hid
theorem o9 (s : St) (d : Option Tmp) (av : AV) (x : Nat) : (s.put n d av).cell x = if (d = some x ∧ Nat.blt x n = true) then av else s.cell x := by
 cases d with
 | none => simp [St.put]
 | some d =>
  unfold St.put
  simp only
  by_cases q : x = d
  ·subst q
   by_cases hn : Nat.blt x n = true
   ·simp [hn, St.setCell]
   ·simp [hn]
  ·have : ¬ (some d = some x ∧ Nat.blt x n = true) := fun h => q (Option.some.inj h.1).symm
   rw [if_neg this]
   split
   ·simp [St.setCell, Ad _ _ q]
   ·rfl
theorem G1 (e : Ent) (s : St) (x : Nat) : (e.app P n s).cell x = if (e.o.dst = some x ∧ Nat.blt x n = true) then e.av else s.cell x := by
 unfold Ent.app
 rw [o9]
 split
 ·rfl
 ·split <;> rfl
theorem Jh (e : Ent) (s : St) (id : Nat) : (e.app P n s).res id = if e.quiet P = false ∧ id ∈ e.wr then e.res id else s.res id := by
 unfold Ent.app
 rw [Rv]
 by_cases q : e.quiet P = true
 ·simp [q]
 ·have q : e.quiet P = false := by simpa using q
  simp only [q, Bool.false_eq_true, if_false, true_and]
  by_cases hm : id ∈ e.wr
  ·simp [hm, A0.2 hm]
  ·have : Dj e.wr id = false := by
    cases hq : Dj e.wr id
    ·rfl
    ·exact absurd (A0.1 hq) hm
   simp [hm, this]
theorem St.ext' {s t : St} (h1 : ∀ i, s.cell i = t.cell i) (h2 : ∀ id, s.res id = t.res id) : s = t := by
 obtain ⟨c, r⟩ := s
 obtain ⟨c', r'⟩ := t
 congr
 ·exact funext h1
 ·exact funext h2
theorem p7 {e f : Ent} (h : Ew P ops e f = true) (s : St) : f.app P n (e.app P n s) = e.app P n (f.app P n s) := by
 have hd : ∀ d, e.o.dst = some d → f.o.dst ≠ some d := by
  intro d h1 h2
  simp only [Ew, Bool.and_eq_true, Bool.not_eq_true'] at h
  have := h.1.2
  unfold Zv at this
  rw [h1, h2] at this
  simp at this
 have hr : ∀ id, e.quiet P = false → id ∈ e.wr → ¬ (f.quiet P = false ∧ id ∈ f.wr) := fun id q1 q2 q3 => by
  simp only [Ew, Bool.and_eq_true, Bool.not_eq_true', Bool.or_eq_true] at h
  rcases h.2.2 with (h4 | h4) | h4
  ·rw [h4] at q1; cases q1
  ·rw [h4] at q3; cases q3.1
  ·exact Pc.1 h4 id q2 q3.2
 refine St.ext' (fun i => ?_) (fun id => ?_)
 ·rw [G1, G1, G1, G1]
  by_cases h1 : e.o.dst = some i ∧ Nat.blt i n = true
  ·have h2 : ¬ (f.o.dst = some i ∧ Nat.blt i n = true) := fun q => hd i h1.1 q.1
   rw [if_neg h2, if_pos h1, if_pos h1]
  ·rw [if_neg h1, if_neg h1]
 ·rw [Jh, Jh, Jh, Jh]
  by_cases h1 : e.quiet P = false ∧ id ∈ e.wr
  ·rw [if_neg (hr id h1.1 h1.2), if_pos h1, if_pos h1]
  ·rw [if_neg h1, if_neg h1]
def Fc (s t : St) (L I : List Nat) : Prop := (∀ x ∈ L, s.cell x = t.cell x) ∧ ∀ id ∈ I, s.res id = t.res id
theorem Fc.app {s t : St} {L I : List Nat} (h : Fc s t L I) (e : Ent) : Fc (e.app P n s) (e.app P n t) L I := by
 refine ⟨fun x hx => ?_, fun id hid => ?_⟩
 ·rw [G1, G1, h.1 x hx]
 ·rw [Jh, Jh, h.2 id hid]
theorem U1.agree {e' e : Ent} (h : U1 P ops e' e) (s : St) : Fc (e'.app P n s) s (e.looks ops) e.ids := by
 refine ⟨fun x hx => ?_, fun id hid => ?_⟩
 ·rw [G1, if_neg (fun q => h.1 x q.1 hx)]
 ·rw [Jh, if_neg (fun q => h.2 q.1 id q.2 hid)]
theorem Fc.trans {s t u : St} {L I : List Nat} (h : Fc s t L I) (k : Fc t u L I) : Fc s u L I := ⟨fun x hx => (h.1 x hx).trans (k.1 x hx), fun x hx => (h.2 x hx).trans (k.2 x hx)⟩
theorem Fc.symm {s t : St} {L I : List Nat} (h : Fc s t L I) : Fc t s L I := ⟨fun x hx => (h.1 x hx).symm, fun x hx => (h.2 x hx).symm⟩
theorem Jl {s t : St} : ∀ {sl : List Nat}, (∀ x ∈ sl, s.cell x = t.cell x) → Cr s sl = Cr t sl
 | [], _ => rfl
 | i :: r, h => by
  simp only [Cr]
  rw [h i (by simp), Jl (fun x hx => h x (by simp [hx]))]
theorem Fy {s t : St} : ∀ {l : List Nat}, (∀ x ∈ l, s.res x = t.res x) → C5 s l = C5 t l
 | [], _ => rfl
 | i :: r, h => by
  simp only [C5]
  rw [h i (by simp), Fy (fun x hx => h x (by simp [hx]))]
theorem Qk {s t : St} {sl : List Nat} (h1 : ∀ x ∈ sl, s.cell x = t.cell x) (h2 : ∀ id ∈ Nj s sl, s.res id = t.res id) : Nj t sl = Nj s sl := by
 unfold Nj at h2 ⊢
 dsimp only at h2 ⊢
 rw [← Jl h1]
 have e1 : C5 t (Cr s sl) = C5 s (Cr s sl) := (Fy (fun x hx => h2 x (List.mem_append_left _ (List.mem_append_left _ hx)))).symm
 rw [e1]
 have e2 : C5 t (Cr s sl ++ C5 s (Cr s sl)) = C5 s (Cr s sl ++ C5 s (Cr s sl)) := (Fy (fun x hx => h2 x (List.mem_append_left _ hx))).symm
 rw [e2]
theorem Ji {s t : St} : ∀ {l : List Nat}, (∀ x ∈ l, s.res x = t.res x) → Ma s l = Ma t l
 | [], _ => rfl
 | i :: r, h => by
  simp only [Ma]
  rw [h i (by simp), Ji (fun x hx => h x (by simp [hx]))]
theorem S2 {s t : St} {o : Oper} (h1 : ∀ x ∈ Bf o, s.cell x = t.cell x) (h2 : ∀ id ∈ G0 s o, s.res id = t.res id) : G0 t o = G0 s o := by
 unfold G0 at h2 ⊢
 by_cases hm : Ua o = true
 ·rw [if_pos hm, if_pos hm]
 rw [if_neg hm] at h2
 rw [if_neg hm, if_neg hm]
 split
 ·rename_i hq
  rw [if_pos hq] at h2
  exact Qk h1 h2
 ·rename_i hq
  rw [if_neg hq] at h2
  have h3 : ∀ id ∈ Nj s (Bf o), s.res id = t.res id := fun id q => h2 id (List.mem_append_left _ q)
  rw [Qk h1 h3, ← Ji h3]
theorem Ue {s t : St} {o : Oper} {m : List Nat} (h : ∀ id ∈ m, s.res id = t.res id) : Gp o t m = Gp o s m := by
 unfold Gp
 rw [Fy h, Ji h]
theorem Nt {s t : St} : ∀ {k nid : Nat}, (∀ id, nid ≤ id → id < nid + k → s.res id = t.res id) → Fj t nid k = Fj s nid k
 | 0, _, _ => rfl
 | k + 1, nid, h => by
  simp only [Fj]
  rw [h nid (Nat.le_refl _) (by omega), Nt (fun id q1 q2 => h id (by omega) (by omega))]
theorem S3 {s t : St} {sl ids : List Nat} (h1 : ∀ x ∈ sl, s.cell x = t.cell x) (h2 : ∀ id ∈ ids, s.res id = t.res id) : t.view sl ids = s.view sl ids := by
 refine St.ext' (fun i => ?_) (fun id => ?_)
 ·show (if Dj sl i then t.cell i else .dead) = (if Dj sl i then s.cell i else .dead)
  split
  ·rename_i q; rw [h1 i (A0.1 q)]
  ·rfl
 ·show (if Dj ids id then t.res id else .unborn) = (if Dj ids id then s.res id else .unborn)
  split
  ·rename_i q; rw [h2 id (A0.1 q)]
  ·rfl
theorem Xn {s t : St} {nid : Nat} {o : Oper} (h1 : ∀ x ∈ Bf o, s.cell x = t.cell x) (h2 : ∀ id ∈ G0 s o ++ Eo nid, s.res id = t.res id) : Lr P sigs t nid o = Lr P sigs s nid o := by
 have h3 : ∀ id ∈ G0 s o, s.res id = t.res id := fun id q => h2 id (List.mem_append_left _ q)
 unfold Lr
 dsimp only
 rw [S2 h1 h3, S3 h1 h3, ← Ue h3, Nt (s := s) (t := t) (fun id q1 q2 => h2 id (List.mem_append_right _ (by
  simp only [Eo, List.mem_cons, List.not_mem_nil, or_false, Sx] at q2 ⊢
  omega)))]
theorem Yw {s t : St} {o : Oper} {j : Nat} {want : Bool} (hg : o.guard = some (j, want)) (h : ∀ x ∈ Xl ops o, s.cell x = t.cell x) : Yv t ops j = Yv s ops j := by
 unfold Xl at h
 rw [hg] at h
 simp only at h
 unfold Yv
 split
 ·rename_i oj hoj
  rw [hoj] at h
  simp only at h
  split
  ·rename_i d hd
   rw [hd] at h
   simp only [List.mem_cons, List.not_mem_nil, or_false, forall_eq] at h
   rw [h]
  ·rfl
 ·rfl
theorem Lu {s t : St} {o : Oper} (h : ∀ x ∈ Xl ops o, s.cell x = t.cell x) : Ea t ops o = Ea s ops o := by
 unfold Ea
 split
 ·rfl
 ·rename_i j want hg
  rw [Yw hg h]
theorem e9.local {s t : St} {e : Ent} (h : e9 P sigs ops s e) (ha : Fc s t (e.looks ops) e.ids) : e9 P sigs ops t e := by
 have hg : ∀ x ∈ Xl ops e.o, s.cell x = t.cell x := fun x hx => ha.1 x (List.mem_append_right _ hx)
 rcases h with ⟨h1, av, v, h2, h3⟩ | ⟨h1, h2⟩
 ·left
  have hrun : e.run = true := by rw [h3]; rfl
  have hids : e.ids = G0 s e.o ++ Eo e.nid := by rw [h3]; rfl
  have c1 : ∀ x ∈ Bf e.o, s.cell x = t.cell x := fun x hx => ha.1 x (List.mem_append_left _ (by rw [hrun]; exact hx))
  have c2 : ∀ id ∈ G0 s e.o ++ Eo e.nid, s.res id = t.res id := fun id hid => ha.2 id (by rw [hids]; exact hid)
  refine ⟨by rw [Lu hg]; exact h1, av, v, by rw [Xn c1 c2]; exact h2, ?_⟩
  have : Kf sigs t e.nid e.o av v = Kf sigs s e.nid e.o av v := by
   unfold Kf
   rw [S2 c1 (fun id hid => c2 id (List.mem_append_left _ hid)), S3 c1 (fun id hid => c2 id (List.mem_append_left _ hid))]
  rw [this]
  exact h3
 ·exact .inr ⟨by rw [Lu hg]; exact h1, h2⟩
theorem S4 {D : Nat → Bool} {e : Ent} : ∀ {tr : List Ent} {k : Nat} {s : St}, (∀ j f, tr[j]? = some f → D (k + j) = true → Ew P ops e f = true) → Jg P n D k tr (e.app P n s) = e.app P n (Jg P n D k tr s)
 | [], _, _, _ => rfl
 | f :: r, k, s, h => by
  simp only [Jg]
  have h' : ∀ j f', r[j]? = some f' → D (k + 1 + j) = true → Ew P ops e f' = true := fun j f' h1 h2 => h (j + 1) f' (by simpa using h1) (by rw [← h2]; congr 1; omega)
  split
  ·rename_i hD
   rw [p7 (h 0 f rfl hD), S4 h']
  ·exact S4 h'
theorem Pd {D D' : Nat → Bool} : ∀ {tr : List Ent} {k : Nat} {s : St}, (∀ j, j < tr.length → D (k + j) = D' (k + j)) → Jg P n D k tr s = Jg P n D' k tr s
 | [], _, _, _ => rfl
 | f :: r, k, s, h => by
  simp only [Jg]
  have h0 : D k = D' k := h 0 (by simp)
  rw [h0]
  exact Pd (fun j hj => by have := h (j + 1) (by simpa using hj); rw [show k + 1 + j = k + (j + 1) by omega]; exact this)
theorem Zw {D D' : Nat → Bool} {e : Ent} : ∀ {tr : List Ent} {k i : Nat} {s : St}, tr[i]? = some e → D (k + i) = false → D' (k + i) = true → (∀ j, j ≠ i → D' (k + j) = D (k + j)) →
  (∀ j f, i < j → tr[j]? = some f → D (k + j) = true → Ew P ops e f = true) → Jg P n D' k tr s = e.app P n (Jg P n D k tr s)
 | [], _, _, _, h, _, _, _, _ => by simp at h
 | f :: r, k, 0, s, h, h1, h2, h3, h4 => by
  simp at h
  subst h
  simp only [Jg]
  have h1' : D k = false := h1
  have h2' : D' k = true := h2
  rw [h1', h2']
  simp only [if_true, Bool.false_eq_true, if_false]
  rw [Pd (D := D') (D' := D) (fun j hj => by have := h3 (j + 1) (by omega); rw [show k + 1 + j = k + (j + 1) by omega]; exact this)]
  exact S4 (fun j f' q1 q2 => h4 (j + 1) f' (by omega) (by simpa using q1) (by rw [← q2]; congr 1; omega))
 | f :: r, k, i + 1, s, h, h1, h2, h3, h4 => by
  simp only [Jg]
  have h0 : D' k = D k := h3 0 (by omega)
  rw [h0]
  refine Zw (i := i) (by simpa using h) (by rw [← h1]; congr 1; omega) (by rw [← h2]; congr 1; omega) (fun j hj => ?_) (fun j f' q1 q2 q3 => ?_)
  ·have := h3 (j + 1) (by omega)
   rw [show k + 1 + j = k + (j + 1) by omega]
   exact this
  ·exact h4 (j + 1) f' (by omega) (by simpa using q2) (by rw [← q3]; congr 1; omega)
theorem Pf {D : Nat → Bool} {e : Ent} : ∀ {tr : List Ent} {k i : Nat} {s t : St}, Fc s t (e.looks ops) e.ids →
  (∀ j f, tr[j]? = some f → j < i → D (k + j) = false → U1 P ops f e) → (∀ j f, tr[j]? = some f → i ≤ j → D (k + j) = true → U1 P ops f e) →
  Fc (Jg P n D k tr s) (Jg P n (fun _ => true) k (tr.take i) t) (e.looks ops) e.ids
 | [], k, i, s, t, h, _, _ => by simpa [Jg] using h
 | f :: r, k, 0, s, t, h, h1, h2 => by
  simp only [Jg, List.take_zero]
  have ih : ∀ s', Fc s' t (e.looks ops) e.ids → Fc (Jg P n D (k + 1) r s') t (e.looks ops) e.ids := fun s' q => by
   have := Pf (D := D) (tr := r) (k := k + 1) (i := 0) q (fun j f' q1 q2 => by omega) (fun j f' q1 _ q3 => h2 (j + 1) f' (by simpa using q1) (by omega) (by rw [← q3]; congr 1; omega))
   simpa [Jg] using this
  split
  ·rename_i hD
   exact ih _ (((h2 0 f rfl (by omega) hD).agree s).trans h)
  ·exact ih _ h
 | f :: r, k, i + 1, s, t, h, h1, h2 => by
  simp only [Jg, List.take_succ_cons, if_true]
  have ih : ∀ s' t', Fc s' t' (e.looks ops) e.ids → Fc (Jg P n D (k + 1) r s') (Jg P n (fun _ => true) (k + 1) (r.take i) t') (e.looks ops) e.ids := fun s' t' q =>
   Pf (D := D) q (fun j f' q1 q2 q3 => h1 (j + 1) f' (by simpa using q1) (by omega) (by rw [← q3]; congr 1; omega)) (fun j f' q1 q2 q3 => h2 (j + 1) f' (by simpa using q1) (by omega) (by rw [← q3]; congr 1; omega))
  split
  ·exact ih _ _ (h.app f)
  ·rename_i hD
   have hD : D k = false := by simpa using hD
   exact ih _ _ (h.trans ((h1 0 f rfl (by omega) hD).agree t).symm)
theorem Mc.get : ∀ {tr : List Ent} {k i : Nat} {s : St} {e : Ent}, Mc P sigs ops n tr s → tr[i]? = some e → e9 P sigs ops (Jg P n (fun _ => true) k (tr.take i) s) e
 | [], _, _, _, _, _, h => by simp at h
 | f :: r, k, 0, s, e, h, hi => by
  simp at hi
  subst hi
  simpa [Jg] using h.1
 | f :: r, k, i + 1, s, e, h, hi => by
  simp only [List.take_succ_cons, Jg, if_true]
  exact Mc.get h.2 (by simpa using hi)
def p8 (tr : List Ent) (D : Nat → Prop) : Prop := ∀ k e, tr[k]? = some e → D k → ∀ p ∈ Hq e.o, D p
def Bef (tr : List Ent) (i : Nat) (e : Ent) : Prop := ∀ D, p8 tr D → (∀ p ∈ Hq e.o, D p) → D i
theorem U2 {ancs : List Nat} {i : Nat} : ∀ {ps : List Nat}, (Qj ancs ps).testBit i = true → ∃ p ∈ ps, p = i ∨ (ancs.getD p 0).testBit i = true
 | [], h => by simp [Qj] at h
 | p :: r, h => by
  simp only [Qj, Nat.testBit_or, Bool.or_eq_true] at h
  rcases h with (h | h) | h
  ·refine ⟨p, by simp, .inl ?_⟩
   rw [Nat.one_shiftLeft, Nat.testBit_two_pow] at h
   simpa using h
  ·exact ⟨p, by simp, .inr h⟩
  ·obtain ⟨q, h1, h2⟩ := U2 h
   exact ⟨q, by simp [h1], h2⟩
theorem S5 {A : Nat} {e : Ent} : ∀ {l : List Ent} {k : Nat}, S1 P ops A e k l = true → ∀ j f, l[j]? = some f → A.testBit (k + j) = true ∨ Ew P ops f e = true
 | [], _, _, j, f, hj => by simp at hj
 | d :: r, k, h, 0, f, hj => by
  simp at hj
  subst hj
  simp only [S1, Bool.and_eq_true, Bool.or_eq_true] at h
  exact h.1
 | d :: r, k, h, j + 1, f, hj => by
  simp only [S1, Bool.and_eq_true, Bool.or_eq_true] at h
  have := S5 h.2 j f (by simpa using hj)
  rw [show k + (j + 1) = k + 1 + j by omega]
  exact this
theorem Xo {tr : List Ent} : ∀ {rest done : List Ent} {ancs : List Nat}, tr = done ++ rest → ancs.length = done.length → f4 P ops done.length done ancs rest = true →
  (∀ k e x, done[k]? = some e → (ancs.getD k 0).testBit x = true → Bef tr x e) →
  (∀ i j e f, tr[i]? = some e → tr[j]? = some f → i < j → j < done.length → Bef tr i f ∨ Ew P ops e f = true) →
  (∀ j f, tr[j]? = some f → j < done.length → ∀ p ∈ Hq f.o, p < j) →
  (∀ i j e f, tr[i]? = some e → tr[j]? = some f → i < j → Bef tr i f ∨ Ew P ops e f = true) ∧ (∀ j f, tr[j]? = some f → ∀ p ∈ Hq f.o, p < j)
 | [], done, ancs, h, _, _, _, h3, h4 => by
  subst h
  rw [List.append_nil]
  refine ⟨fun i j e f h1 h2 h5 => ?_, fun j f h1 => ?_⟩
  ·have := h3 i j e f (by rw [List.append_nil]; exact h1) (by rw [List.append_nil]; exact h2) h5 (List.getElem?_eq_some_iff.1 h2).1
   rwa [List.append_nil] at this
  ·exact h4 j f (by rw [List.append_nil]; exact h1) (List.getElem?_eq_some_iff.1 h1).1
 | e :: rest, done, ancs, h, hl, hok, h2, h3, h4 => by
  simp only [f4, Bool.and_eq_true] at hok
  obtain ⟨k1, k2, k3⟩ := hok
  have hget : tr[done.length]? = some e := by rw [h]; simp
  have hbef : ∀ x, (Qj ancs (Hq e.o)).testBit x = true → Bef tr x e := by
   intro x hx D hD hp
   obtain ⟨p, q1, q2⟩ := U2 hx
   rcases q2 with rfl | q2
   ·exact hp _ q1
   ·have hpl : p < done.length := U0.1 k1 p q1
    have hpe : done[p]? = some done[p] := List.getElem?_eq_getElem hpl
    have hpt : tr[p]? = some done[p] := by rw [h, List.getElem?_append_left hpl]; exact hpe
    exact h2 p _ x hpe q2 D hD (hD p _ hpt (hp p q1))
  have hlen : (done ++ [e]).length = done.length + 1 := by simp
  refine Xo (rest := rest) (done := done ++ [e]) (ancs := ancs ++ [Qj ancs (Hq e.o)]) (by rw [h]; simp) (by simp [hl]) (by rw [hlen]; exact k3) ?_ ?_ ?_
  ·intro k f x hk hx
   by_cases q : k < done.length
   ·rw [List.getElem?_append_left q] at hk
    refine h2 k f x hk ?_
    rw [List.getD_eq_getElem?_getD, List.getElem?_append_left (by omega), ← List.getD_eq_getElem?_getD] at hx
    exact hx
   ·have hkl := (List.getElem?_eq_some_iff.1 hk).1
    have hke : k = done.length := by simp at hkl; omega
    subst hke
    simp at hk
    subst hk
    rw [List.getD_eq_getElem?_getD, ← hl] at hx
    simp at hx
    exact hbef x hx
  ·intro i j f f' q1 q2 q3 q4
   by_cases q : j < done.length
   ·exact h3 i j f f' q1 q2 q3 q
   ·have : j = done.length := by simp at q4; omega
    subst this
    rw [hget] at q2
    cases q2
    have hi : done[i]? = some f := by rw [h, List.getElem?_append_left q3] at q1; exact q1
    rcases S5 k2 i f hi with q5 | q5
    ·exact .inl (hbef i (by simpa using q5))
    ·exact .inr q5
  ·intro j f q1 q2
   by_cases q : j < done.length
   ·exact h4 j f q1 q
   ·have : j = done.length := by simp at q2; omega
    subst this
    rw [hget] at q1
    cases q1
    exact U0.1 k1
end
end Go.Proofs.Ytkfoebbjncngjaa.R

