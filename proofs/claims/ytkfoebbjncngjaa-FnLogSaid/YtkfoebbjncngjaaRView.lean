/- One operation, told of that part of the state that it looks at. No condition. -/
import Derived.Test.YtkfoebbjncngjaaRInl
namespace Go.Proofs.Ytkfoebbjncngjaa.R
open Go Go.RowKit
set_option linter.unusedVariables false
set_option linter.unusedSimpArgs false
def On : Lf → List Nat
 | .row id => [id]
 | .ptr id _ => [id]
 | .rp id _ _ => [id]
 | .sp id => [id]
 | _ => []
def K2 : List Lf → List Nat
 | [] => []
 | l :: r => On l ++ K2 r
def U6 (v : Vl) : List Nat := K2 v.ls
def T7 : List Vl → List Nat
 | [] => []
 | v :: r => U6 v ++ T7 r
def F8 : AV → List Nat
 | .dead => []
 | .vl v => U6 v
 | .tp vs => T7 vs
 | .fn _ ls => K2 ls
def K3 : Res → List Nat
 | .box _ ls => K2 ls
 | _ => []
def U7 : Res → List Nat
 | .last _ _ _ _ j => [j]
 | _ => []
def E0 : List Operand → List Nat
 | [] => []
 | .tmp t :: r => t :: E0 r
 | _ :: r => E0 r
def Bn (o : Oper) : List Nat := E0 o.op.operands.toList
def Em (l : List Nat) (i : Nat) : Bool := match l with
 | [] => false
 | j :: r => Nat.beq j i || Em r i
theorem A7 {l : List Nat} {i : Nat} : Em l i = true ↔ i ∈ l := by
 induction l with
 | nil => simp [Em]
 | cons j r ih =>
  simp only [Em, Bool.or_eq_true, ih, List.mem_cons, Nat.beq_eq]
  constructor
  ·rintro (h | h)
   ·exact .inl h.symm
   ·exact .inr h
  ·rintro (h | h)
   ·exact .inl h.symm
   ·exact .inr h
def Df (s : St) : List Nat → List Nat
 | [] => []
 | i :: r => F8 (s.cell i) ++ Df s r
def D5 (s : St) : List Nat → List Nat
 | [] => []
 | i :: r => K3 (s.res i) ++ D5 s r
def P1 (s : St) (sl : List Nat) : List Nat :=
 let l0 := Df s sl
 let l1 := l0 ++ D5 s l0
 l1 ++ D5 s l1
def Oo (s : St) : List Nat → List Nat
 | [] => []
 | i :: r => U7 (s.res i) ++ Oo s r
def F9 (o : Oper) : Bool := match o.op with
 | .move x => !So x
 | .assign x => !So x
 | .indexAddr _ _ _ => true
 | .call c => (match c.callee with
  | .builtin .len => true
  | _ => false)
 | _ => false
def Wy (o : Oper) : Bool := match o.op with
 | .move x => !So x
 | .assign x => !So x
 | _ => false
theorem Ad7 {o : Oper} (h : Wy o = true) : F9 o = true := by
 unfold Wy at h
 unfold F9
 split at h
 ·rename_i q; rw [q]; exact h
 ·rename_i q; rw [q]; exact h
 ·cases h
def Ig (s : St) (o : Oper) : List Nat := if Wy o then [] else if F9 o then P1 s (Bn o) else P1 s (Bn o) ++ Oo s (P1 s (Bn o))
def P2 (l m : List Nat) : Bool := match l with
 | [] => true
 | i :: r => Em m i && P2 r m
theorem Rh {l m : List Nat} : P2 l m = true ↔ ∀ i ∈ l, i ∈ m := by
 induction l with
 | nil => simp [P2]
 | cons j r ih => simp [P2, A7, ih]
def U8 : Nat := 4
def F3 (nid : Nat) : List Nat := [nid, nid + 1, nid + 2, nid + 3]
def St.view (s : St) (sl ids : List Nat) : St := ⟨fun i => if Em sl i then s.cell i else .dead, fun id => if Em ids id then s.res id else .unborn⟩
def St.lay (s v : St) (m : List Nat) : St := ⟨s.cell, fun id => if Em m id then v.res id else s.res id⟩
def H3 (o : Oper) (s : St) (m : List Nat) : Bool := P2 (D5 s m) m && (F9 o || P2 (Oo s m) m)
def Nw (P : Program) (sigs : Tb) (s : St) (nid : Nat) (o : Oper) : Option (AV × St) :=
 let sl := Bn o
 let ids := Ig s o
 if Gt s nid U8 then (if H3 o s ids then (Ie P sigs (s.view sl ids) nid o).bind fun p =>
  if Wy o || P2 (F8 p.1) (ids ++ F3 nid) then (if H3 o p.2 (ids ++ F3 nid) then some p else none) else none
 else none) else none
section
variable {P : Program} {n B : Nat} {Iq : List Nat} {s : St} {g : Gh} {a : Act} {w : World}
theorem Mb (h : ∀ id, Ew s g w id (s.res id)) {id b : Nat} (hb : g.blk id = some b) : (s.res id).live = true := by
 have r := h id
 cases hr : s.res id with
 | box T ls => rfl
 | row e t xs => rfl
 | unborn => rw [hr] at r; exact absurd (hb.symm.trans r) (by simp)
 | dead => rw [hr] at r; exact absurd (hb.symm.trans r) (by simp)
 | frozen t xs => rw [hr] at r; exact absurd (hb.symm.trans r.2) (by simp)
 | last _ _ _ _ _ => rfl
 | map _ _ => rfl
 | iter _ _ _ _ => rfl
theorem Bi.part {s s' : St} {g g' : Gh} {w : World} {m : List Nat} (hS : ∀ b, Bz s g b → b < w.heap.size → Bz s' g' b) (hm : ∀ id ∈ m, s'.res id = s.res id ∧ g'.blk id = g.blk id ∧ g'.hdr id = g.hdr id) :
  ∀ {l : Lf} {u : Value}, (∀ id ∈ On l, id ∈ m) → Bi s g w l u → Bi s' g' w l u
 | .c _, _, _, h => h
 | .sl _ _, _, _, h => Ty.K_keep (fun b hb hl => ⟨hS b hb hl, rfl⟩) h
 | .row id, u, hi, h => by
  obtain ⟨e1, e2, e3⟩ := hm id (hi id (by simp [On]))
  simp only [Bi] at h ⊢
  rw [e1, e3]
  exact h
 | .ptr id off, u, hi, h => by
  obtain ⟨e1, e2, e3⟩ := hm id (hi id (by simp [On]))
  simp only [Bi] at h ⊢
  rw [e1, e2]
  exact h
 | .ep t xs i off, u, _, ⟨ad, cs, h1, h2, h3, h4, h5⟩ => ⟨ad, cs, h1, hS _ h2 h3, h3, Ty.K_keep (fun b hb hl => ⟨hS b hb hl, rfl⟩) h4, h5⟩
 | .rp id i off, u, hi, h => by
  obtain ⟨e1, e2, e3⟩ := hm id (hi id (by simp [On]))
  simp only [Bi] at h ⊢
  rw [e1, e2]
  exact h
 | .sp id, u, hi, h => by
  obtain ⟨e1, e2, e3⟩ := hm id (hi id (by simp [On]))
  simp only [Bi] at h ⊢
  rw [e1, e2]
  exact h
section
variable {s' : St} {g' : Gh} {m : List Nat} (hS : ∀ b, Bz s g b → b < w.heap.size → Bz s' g' b) (hm : ∀ id ∈ m, s'.res id = s.res id ∧ g'.blk id = g.blk id ∧ g'.hdr id = g.hdr id)
 include hS hm
theorem Cy.part : ∀ {ls : List Lf} {cs : List Value}, (∀ id ∈ K2 ls, id ∈ m) → Cy s g w ls cs → Cy s' g' w ls cs
 | [], [], _, _ => trivial
 | [], _ :: _, _, h => h.elim
 | _ :: _, [], _, h => h.elim
 | l :: ls, _ :: _, hi, h => ⟨⟨Bi.part hS hm (fun id q => hi id (by simp [K2, q])) h.1.1, h.1.2⟩, Cy.part (fun id q => hi id (by simp [K2, q])) h.2⟩
theorem Pf.part {v : Vl} {u : Value} (hi : ∀ id ∈ U6 v, id ∈ m) (h : Pf s g w v u) : Pf s' g' w v u := by
 cases v with
 | lf l => exact ⟨Bi.part hS hm (fun id q => hi id (by simp [U6, Vl.ls, K2, q])) h.1, h.2⟩
 | ag ls =>
  obtain ⟨cs, e, hL⟩ := h
  exact ⟨cs, e, Cy.part hS hm hi hL⟩
theorem Jq.part {v : AV} {u : Value} (hi : ∀ id ∈ F8 v, id ∈ m) (h : Jq s g w v u) : Jq s' g' w v u := by
 cases v with
 | dead => trivial
 | vl v => exact Pf.part hS hm hi h
 | tp vs =>
  obtain ⟨us, h1, h2, h3⟩ := h
  refine ⟨us, h1, h2, fun j l hl => ?_⟩
  obtain ⟨v, e1, e2⟩ := h3 j l hl
  refine ⟨v, e1, Pf.part hS hm (fun id q => hi id ?_) e2⟩
  have hmem := List.mem_of_getElem? hl
  clear h1 h2 h3 hl e1 e2 hi
  induction vs with
  | nil => cases hmem
  | cons x r ih =>
   rcases List.mem_cons.1 hmem with rfl | hmem
   ·simp [F8, T7, q]
   ·have := ih hmem
    simp only [F8, T7, List.mem_append] at this ⊢
    exact .inr this
 | fn f ls =>
  obtain ⟨cs, h1, h2⟩ := h
  exact ⟨cs, h1, Cy.part hS hm hi h2⟩
theorem Ew.part {id : Nat} (hid : id ∈ m) {r : Res} (hi : ∀ j ∈ K3 r, j ∈ m) (hwk : ∀ j ∈ U7 r, j ∈ m) (h : Ew s g w id r) : Ew s' g' w id r := by
 obtain ⟨e1, e2, e3⟩ := hm id hid
 cases r with
 | unborn => exact e2.trans h
 | dead => exact e2.trans h
 | box T ls =>
  obtain ⟨b, cs, h1, h2, h3⟩ := h
  exact ⟨b, cs, e2.trans h1, h2, Cy.part hS hm hi h3⟩
 | row e t xs =>
  obtain ⟨cs, h1, h2, h3⟩ := h
  exact ⟨cs, by rw [e3]; exact h1, h2.imp hS, by rw [e2, e3]; exact h3⟩
 | frozen t xs =>
  obtain ⟨h1, h2⟩ := h
  exact ⟨by rw [e3]; exact Ty.K_keep (fun b hb hl => ⟨hS b hb hl, rfl⟩) h1, e2.trans h2⟩
 | last e t xs c j =>
  obtain ⟨cs, h1, h2, h3, h4⟩ := h
  obtain ⟨q1, q2, q3⟩ := hm j (hwk j (by simp [U7]))
  refine ⟨cs, by rw [e3]; exact h1, h2.imp hS, by rw [e2, e3]; exact h3, fun u hc hu => ?_⟩
  rw [q1, q3]
  exact h4 u hc hu
 | map t xs =>
  obtain ⟨b, es, clock, h1, h2, h3⟩ := h
  exact ⟨b, es, clock, e2.trans h1, e3.trans h2, h3⟩
 | iter t xs seen cur =>
  obtain ⟨b, r, es, clock, since, c0, sn, h1, h2, h3, h4, h5, h6⟩ := h
  exact ⟨b, r, es, clock, since, c0, sn, e2.trans h1, e3.trans h2, h3, hS b h4 h5, h5, h6⟩
end
theorem U9 {i id : Nat} : ∀ {l : List Nat}, i ∈ l → id ∈ U7 (s.res i) → id ∈ Oo s l
 | j :: r, h, q => by
  rcases List.mem_cons.1 h with rfl | h
  ·exact List.mem_append_left _ q
  ·exact List.mem_append_right _ (U9 h q)
def Gh.view (s : St) (g : Gh) (ids : List Nat) : Gh := ⟨fun id => if Em ids id then g.blk id else none, g.hdr, fun b => g.av b ∨ ∃ id, id ∉ ids ∧ g.blk id = some b⟩
theorem Nx {i id : Nat} : ∀ {sl : List Nat}, i ∈ sl → id ∈ F8 (s.cell i) → id ∈ Df s sl
 | j :: r, h, q => by
  rcases List.mem_cons.1 h with rfl | h
  ·exact List.mem_append_left _ q
  ·exact List.mem_append_right _ (Nx h q)
theorem Sr {i id : Nat} : ∀ {l : List Nat}, i ∈ l → id ∈ K3 (s.res i) → id ∈ D5 s l
 | j :: r, h, q => by
  rcases List.mem_cons.1 h with rfl | h
  ·exact List.mem_append_left _ q
  ·exact List.mem_append_right _ (Sr h q)
theorem Ad8 {sl ids : List Nat} (b : Nat) (hb : Bz s g b) (hres : ∀ id, Ew s g w id (s.res id)) : Bz (s.view sl ids) (g.view s ids) b := by
 refine ⟨?_, fun id hl hk => ?_⟩
 ·rintro (q | ⟨id, q1, q2⟩)
  ·exact hb.1 q
  ·exact hb.2 id (Mb hres q2) q2
 ·simp only [Gh.view] at hk
  split at hk
  ·rename_i hid
   exact hb.2 id (Mb hres hk) hk
  ·cases hk
theorem Ad9 (h : Ax n B Iq s g a w) {sl ids : List Nat} (hc : ∀ i ∈ sl, ∀ id ∈ F8 (s.cell i), id ∈ ids) (hr : ∀ i ∈ ids, ∀ id ∈ K3 (s.res i), id ∈ ids) (hw : ∀ i ∈ ids, ∀ id ∈ U7 (s.res i), id ∈ ids) :
  Ax n w.heap.size (ids.filterMap g.blk) (s.view sl ids) (g.view s ids) a w := by
 have hS : ∀ b, Bz s g b → b < w.heap.size → Bz (s.view sl ids) (g.view s ids) b := fun b hb _ => Ad8 b hb h.res
 have hm : ∀ id ∈ ids, (s.view sl ids).res id = s.res id ∧ (g.view s ids).blk id = g.blk id ∧ (g.view s ids).hdr id = g.hdr id := by
  intro id hid
  have := A7.2 hid
  refine ⟨?_, ?_, rfl⟩
  ·simp [St.view, this]
  ·simp [Gh.view, this]
 refine ⟨h.size, h.defers, Nat.le_refl _, fun i => ?_, fun id => ?_, fun id id' b q1 q2 => ?_, fun id b q => ?_, fun b q => ?_⟩
 ·show Jq _ _ _ (if Em sl i then s.cell i else .dead) _
  split
  ·rename_i hi
   exact Jq.part hS hm (hc i (A7.1 hi)) (h.cell i)
  ·trivial
 ·by_cases hid : id ∈ ids
  ·rw [(hm id hid).1]
   exact Ew.part hS hm hid (hr id hid) (hw id hid) (h.res id)
  ·have hf : Em ids id = false := by
    cases hq : Em ids id
    ·rfl
    ·exact absurd (A7.1 hq) hid
   have : (s.view sl ids).res id = .unborn := by simp [St.view, hf]
   rw [this]
   show (g.view s ids).blk id = none
   simp [Gh.view, hf]
 ·simp only [Gh.view] at q1 q2
  split at q1
  ·split at q2
   ·exact h.inj id id' b q1 q2
   ·cases q2
  ·cases q1
 ·simp only [Gh.view] at q
  split at q
  ·rename_i hid
   have hid := A7.1 hid
   refine ⟨(h.lt id b q).1, .inl (List.mem_filterMap.2 ⟨id, hid, q⟩), ?_⟩
   rintro (q2 | ⟨j, q2, q3⟩)
   ·exact (h.lt id b q).2.2 q2
   ·exact q2 (by rw [h.inj j id b q3 q]; exact hid)
  ·cases q
 ·rcases q with q | ⟨id, q1, q2⟩
  ·have := h.avB b q
   have := h.base
   omega
  ·exact (h.lt id b q2).1
theorem i6 {l m : List Nat} (h : P2 (D5 s l) m = true) : ∀ i ∈ l, ∀ id ∈ K3 (s.res i), id ∈ m :=
 fun i hi id hid => Rh.1 h id (Sr hi hid)
theorem Ss {sl : List Nat} : ∀ i ∈ sl, ∀ id ∈ F8 (s.cell i), id ∈ P1 s sl :=
 fun i hi id hid => List.mem_append_left _ (List.mem_append_left _ (Nx hi hid))
theorem Oq {nid : Nat} (h : Gt s nid U8 = true) : ∀ id ∈ F3 nid, s.res id = .unborn := by
 intro id hid
 have : nid ≤ id ∧ id < nid + 4 := by
  simp only [F3, List.mem_cons, List.not_mem_nil, or_false] at hid
  omega
 exact Uu h id this.1 this.2
theorem Ah0 (h : Ax n B Iq s g a w) {sl ids : List Nat} {nid : Nat} {v' : St} {gv' : Gh} {w' : World} {av : AV} (hfr : ∀ id ∈ F3 nid, s.res id = .unborn)
  (hgo : Go w.heap.size (ids.filterMap g.blk) (s.view sl ids) (g.view s ids) w v' gv' w') (hR : Ax n w.heap.size (ids.filterMap g.blk) v' gv' a w')
  (hav : ∀ id ∈ F8 av, id ∈ ids ++ F3 nid) (hres : ∀ i ∈ ids ++ F3 nid, ∀ id ∈ K3 (v'.res i), id ∈ ids ++ F3 nid) (hwk : ∀ i ∈ ids ++ F3 nid, ∀ id ∈ U7 (v'.res i), id ∈ ids ++ F3 nid) :
  ∃ g', Go B Iq s g w (s.lay v' (ids ++ F3 nid)) g' w' ∧ Ax n B Iq (s.lay v' (ids ++ F3 nid)) g' a w' ∧ ∀ u, Jq v' gv' w' av u → Jq (s.lay v' (ids ++ F3 nid)) g' w' av u := by
 generalize hm : ids ++ F3 nid = m at hav hres hwk ⊢
 have hidm : ∀ id ∈ ids, id ∈ m := fun id q => by rw [← hm]; exact List.mem_append_left _ q
 have hmem : ∀ id ∈ m, id ∈ ids ∨ id ∈ F3 nid := fun id q => by rw [← hm] at q; exact List.mem_append.1 q
 have hin : ∀ id, Em m id = true ↔ id ∈ m := fun id => A7
 have hout : ∀ {id}, id ∉ m → Em m id = false := fun {id} q => by
  cases hq : Em m id
  ·rfl
  ·exact absurd ((hin id).1 hq) q
 refine ⟨⟨fun id => if Em m id then gv'.blk id else g.blk id, fun id => if Em m id then gv'.hdr id else g.hdr id, g.av⟩, ?_⟩
 generalize hg' : (⟨fun id => if Em m id then gv'.blk id else g.blk id, fun id => if Em m id then gv'.hdr id else g.hdr id, g.av⟩ : Gh) = g'
 generalize hs' : s.lay v' m = s'
 have e1 : ∀ id ∈ m, s'.res id = v'.res id ∧ g'.blk id = gv'.blk id ∧ g'.hdr id = gv'.hdr id := by
  intro id hid
  have := (hin id).2 hid
  subst hs' hg'
  simp [St.lay, this]
 have e2 : ∀ id, id ∉ m → s'.res id = s.res id ∧ g'.blk id = g.blk id ∧ g'.hdr id = g.hdr id := by
  intro id hid
  have := hout hid
  subst hs' hg'
  simp [St.lay, this]
 have ecell : s'.cell = s.cell := by subst hs'; rfl
 have eav : g'.av = g.av := by subst hg'; rfl
 have eavv : gv'.av = (g.view s ids).av := hgo.av
 have liveBlk : ∀ id b, g.blk id = some b → (s.res id).live = true := fun id b q => Mb h.res q
 have hS2 : ∀ b, Bz v' gv' b → b < w'.heap.size → Bz s' g' b := by
  rintro b ⟨q1, q2⟩ _
  rw [eavv] at q1
  refine ⟨by rw [eav]; exact fun q => q1 (.inl q), fun id hl hk => ?_⟩
  by_cases hid : id ∈ m
  ·obtain ⟨a1, a2, a3⟩ := e1 id hid
   rw [a1] at hl
   rw [a2] at hk
   exact q2 id hl hk
  ·obtain ⟨a1, a2, a3⟩ := e2 id hid
   rw [a2] at hk
   exact q1 (.inr ⟨id, fun q => hid (hidm id q), hk⟩)
 have hS : ∀ b, Bz s g b → b < w.heap.size → Bz s' g' b ∧ w'.heap[b]? = w.heap[b]? := by
  intro b hb hlt
  obtain ⟨k1, k2⟩ := hgo.S b (Ad8 b hb h.res) hlt
  exact ⟨hS2 b k1 (Nat.lt_of_lt_of_le hlt hgo.kp.size), k2⟩
 have hI : ∀ id, Aj s g s' g' id := by
  intro id
  by_cases hid : id ∈ m
  ·obtain ⟨a1, a2, a3⟩ := e1 id hid
   rcases hmem id hid with q | q
   ·have r := hgo.ref id
    unfold Aj at r ⊢
    have hq := A7.2 q
    have v1 : (s.view sl ids).res id = s.res id := by simp [St.view, hq]
    have v2 : (g.view s ids).blk id = g.blk id := by simp [Gh.view, hq]
    rw [v1, v2] at r
    rw [a1, a2, a3]
    exact r
   ·unfold Aj
    rw [hfr id q]
    exact .inr trivial
  ·obtain ⟨a1, a2, a3⟩ := e2 id hid
   exact Aj.same a1 a2 a3
 have hKp : Kp B Iq w w' := ⟨hgo.kp.os, hgo.kp.tape, hgo.kp.output, hgo.kp.size, fun k hk hkI => by
  refine hgo.kp.block k (Nat.lt_of_lt_of_le hk h.base) (fun q => ?_)
  obtain ⟨id, q1, q2⟩ := List.mem_filterMap.1 q
  rcases (h.lt id k q2).2.1 with q3 | q3
  ·exact hkI q3
  ·omega⟩
 refine ⟨⟨hKp, hS, hI, eav⟩, ?_, fun u hu => Jq.part hS2 e1 hav hu⟩
 refine h.step h.size h.defers hgo.kp.size hS hI (fun i => .inl ⟨by rw [ecell], rfl⟩) (fun j => ?_) (fun i j b hi hj => ?_) (fun i b hi => ?_) eav
 ·by_cases hj : j ∈ m
  ·right
   rw [(e1 j hj).1]
   exact Ew.part hS2 e1 hj (hres j hj) (hwk j hj) (hR.res j)
  ·left
   obtain ⟨a1, a2, a3⟩ := e2 j hj
   refine ⟨a1, a2, a3, fun b hb => hgo.kp.block b (h.lt j b hb).1 (fun q => ?_)⟩
   obtain ⟨id, q1, q2⟩ := List.mem_filterMap.1 q
   exact hj (by rw [h.inj j id b hb q2]; exact hidm id q1)
 ·have far : ∀ i j b, i ∈ m → g'.blk i = some b → j ∉ m → g'.blk j = some b → False := by
   intro i j b him hi hjm hj
   rw [(e1 i him).2.1] at hi
   rw [(e2 j hjm).2.1] at hj
   refine (hR.lt i b hi).2.2 ?_
   rw [eavv]
   exact .inr ⟨j, fun q => hjm (hidm j q), hj⟩
  by_cases him : i ∈ m <;> by_cases hjm : j ∈ m
  ·rw [(e1 i him).2.1] at hi
   rw [(e1 j hjm).2.1] at hj
   exact hR.inj i j b hi hj
  ·exact (far i j b him hi hjm hj).elim
  ·exact (far j i b hjm hj him hi).elim
  ·rw [(e2 i him).2.1] at hi
   rw [(e2 j hjm).2.1] at hj
   exact h.inj i j b hi hj
 ·by_cases him : i ∈ m
  ·rw [(e1 i him).2.1] at hi
   obtain ⟨k1, k2, k3⟩ := hR.lt i b hi
   rw [eavv] at k3
   refine ⟨k1, ?_, fun q => k3 (.inl q)⟩
   rcases k2 with k2 | k2
   ·obtain ⟨id, q1, q2⟩ := List.mem_filterMap.1 k2
    exact (h.lt id b q2).2.1
   ·exact .inr (Nat.le_trans h.base k2)
  ·rw [(e2 i him).2.1] at hi
   obtain ⟨k1, k2⟩ := h.lt i b hi
   exact ⟨Nat.lt_of_lt_of_le k1 hgo.kp.size, k2⟩
theorem Xx {o : Oper} {m : List Nat} (h : H3 o s m = true) : (∀ i ∈ m, ∀ id ∈ K3 (s.res i), id ∈ m) ∧ (F9 o = false → ∀ i ∈ m, ∀ id ∈ U7 (s.res i), id ∈ m) := by
 simp only [H3, Bool.and_eq_true, Bool.or_eq_true] at h
 refine ⟨i6 h.1, fun hl i hi id hid => ?_⟩
 rcases h.2 with q | q
 ·rw [hl] at q; cases q
 ·exact Rh.1 q id (U9 hi hid)
theorem Va {o : Oper} (hm : Wy o = false) : ∀ i ∈ Bn o, ∀ id ∈ F8 (s.cell i), id ∈ Ig s o := fun i hi id hid => by
 unfold Ig
 rw [hm]
 simp only [Bool.false_eq_true, if_false]
 split
 ·exact Ss i hi id hid
 ·exact List.mem_append_left _ (Ss i hi id hid)
section
variable {s t : St}
theorem P3 {x : Operand} (h : ∀ i ∈ E0 [x], s.cell i = t.cell i) : s.op x = t.op x := by
 cases x with
 | tmp i => exact h i (by simp [E0])
 | const v => rfl
 | global _ => rfl
 | func _ => rfl
theorem Xy {x : Operand} (h : s.op x = t.op x) : s.leaf x = t.leaf x := by unfold St.leaf; rw [h]
theorem Ri {x : Operand} (h : s.op x = t.op x) : s.conc x = t.conc x := by unfold St.conc; rw [h]
theorem i7 {x : Operand} {id : Nat} (h : s.leaf x = some (.row id)) : ∃ i ∈ E0 [x], id ∈ F8 (s.cell i) := by
 cases x with
 | tmp i =>
  refine ⟨i, by simp [E0], ?_⟩
  unfold St.leaf at h
  simp only [St.op] at h
  split at h
  ·rename_i l hl
   cases h
   rw [hl]
   simp [F8, U6, Vl.ls, K2, On]
  ·cases h
 | const v =>
  unfold St.leaf at h
  simp only [St.op] at h
  split at h
  ·rename_i l hl
   cases h
   unfold Tu at hl
   split at hl
   ·split at hl <;> cases hl
   ·cases hl
   ·cases hl
  ·cases h
 | global _ => cases h
 | func _ => cases h
theorem P4 {x : Operand} (h : s.leaf x = t.leaf x) (hr : ∀ id, s.leaf x = some (.row id) → s.res id = t.res id) : Nc s x = Nc t x := by
 unfold Nc
 rw [← h]
 split
 ·rename_i id hl
  rw [hr id hl]
 ·rfl
theorem Abr {x : Operand} (h : s.leaf x = t.leaf x) (hr : ∀ id, s.leaf x = some (.row id) → s.res id = t.res id) : (s.leaf x).bind s.sl = (t.leaf x).bind t.sl := by
 rw [← h]
 cases hl : s.leaf x with
 | none => rfl
 | some l =>
  cases l with
  | row id => simp only [Option.bind_some, St.sl]; rw [hr id hl]
  | _ => rfl
theorem Wz {T : TypeId} {x y : Operand} (h : s.leaf x = t.leaf x) (hr : ∀ id, s.leaf x = some (.row id) → s.res id = t.res id) (hy : s.conc y = t.conc y) : J3 P s T x y = J3 P t T x y := by
 unfold J3
 rw [← h, ← hy]
 split
 ·split
  ·rename_i id _ _ _ hl _
   rw [hr _ hl]
  ·rfl
 ·rfl
theorem i8 {T : TypeId} {x : Operand} (h : s.leaf x = t.leaf x) (hr : ∀ id, s.leaf x = some (.row id) → s.res id = t.res id) : Q6 P s T x = Q6 P t T x := by
 unfold Q6
 rw [← h]
 split
 ·split
  ·rename_i id hl
   rw [hr _ hl]
  ·rfl
 ·rfl
end
theorem P5 {s t : St} {T : TypeId} {x y : Operand} (h : s.leaf x = t.leaf x) (hr : ∀ id, s.leaf x = some (.row id) → s.res id = t.res id) (hy : s.conc y = t.conc y) : Ez P s T x y = Ez P t T x y := by
 unfold Ez
 rw [Abr h hr, hy]
theorem Aan {s t : St} {T : TypeId} {x : Operand} (h : s.leaf x = t.leaf x) (hr : ∀ id, s.leaf x = some (.row id) → s.res id = t.res id) (hy : s.conc x = t.conc x) : Xm P s T x = Xm P t T x := by
 unfold Xm
 rw [Abr h hr, hy]
theorem i9 {s t : St} {X : Option (List Bool × Lf)} {av : AV} {v' : St} (e : F0 (lfC t X) = some (av, v')) : v' = t ∧ F0 (lfC s X) = some (av, s) := by
 cases X with
 | none => cases e
 | some p =>
  simp only [lfC, F0] at e ⊢
  split at e <;> cases e
  rename_i hq
  exact ⟨rfl, by rw [if_pos hq]⟩
theorem T8 {s t : St} {X : Option Value} {av : AV} {v' : St} (e : F0 (v0 t X) = some (av, v')) : v' = t ∧ F0 (v0 s X) = some (av, s) := by
 cases X with
 | none => cases e
 | some p =>
  simp only [v0, F0] at e ⊢
  split at e <;> cases e
  rename_i hq
  exact ⟨rfl, by rw [if_pos hq]⟩
theorem P6 {s t : St} : ∀ {l : List Operand}, (∀ y ∈ l, s.conc y = t.conc y) → Km s l = Km t l
 | [], _ => rfl
 | y :: r, h => by
  simp only [Km]
  rw [h y (by simp), P6 (fun z hz => h z (by simp [hz]))]
theorem W0 {s t : St} {T : TypeId} {x : Operand} (h : s.leaf x = t.leaf x) (hr : ∀ id, s.leaf x = some (.row id) → s.res id = t.res id) : J5 P s T x = J5 P t T x := by
 unfold J5
 rw [← h]
 split
 ·rename_i hl
  rw [hr _ hl]
 ·rfl
theorem Aao {sigs : Tb} {nid : Nat} {o : Oper} {t v' : St} {av : AV} (hl : F9 o = true) (hc : ∀ i ∈ Bn o, t.cell i = s.cell i) (hr : Wy o = false → ∀ i ∈ Bn o, ∀ id ∈ F8 (t.cell i), t.res id = s.res id)
  (e : Ie P sigs t nid o = some (av, v')) : v' = t ∧ Ie P sigs s nid o = some (av, s) := by
 obtain ⟨dst, op, type, pos, after, guard⟩ := o
 cases op <;> simp only [F9] at hl <;> first | (cases hl; done) | skip
 case move x =>
  have hx : t.op x = s.op x := P3 (fun i hi => hc i (by simpa [Bn, Op.operands] using hi))
  simp only [Bool.not_eq_true'] at hl
  simp only [Ie, F7, Py, J6, L7, hl, avS, F0, Hn] at e ⊢
  cases e
  exact ⟨rfl, by rw [hx]; rfl⟩
 case assign x =>
  have hx : t.op x = s.op x := P3 (fun i hi => hc i (by simpa [Bn, Op.operands] using hi))
  simp only [Bool.not_eq_true'] at hl
  simp only [Ie, F7, Py, J6, L7, hl, avS, F0, Hn] at e ⊢
  cases e
  exact ⟨rfl, by rw [hx]; rfl⟩
 case indexAddr T x y =>
  have hs1 : E0 [x] ⊆ Bn ⟨dst, .indexAddr T x y, type, pos, after, guard⟩ := fun i hi => by
   cases x <;> simp [E0, Bn, Op.operands] at hi ⊢
   exact .inl hi
  have hs2 : E0 [y] ⊆ Bn ⟨dst, .indexAddr T x y, type, pos, after, guard⟩ := fun i hi => by
   cases x <;> cases y <;> simp [E0, Bn, Op.operands] at hi ⊢ <;> first | exact hi | exact .inr hi
  have hx := Xy (P3 (s := t) (t := s) (x := x) (fun i hi => hc i (hs1 hi)))
  have hy := Ri (P3 (s := t) (t := s) (x := y) (fun i hi => hc i (hs2 hi)))
  have hrr : ∀ id, t.leaf x = some (.row id) → t.res id = s.res id := fun id hid => by
   obtain ⟨i, h1, h2⟩ := i7 hid
   exact hr rfl i (hs1 h1) id h2
  simp only [Ie, F7, Py, J6] at e ⊢
  rw [P4 hx hrr, Wz hx hrr hy, P5 hx hrr hy] at e
  split at e
  ·rename_i hq
   rw [if_pos hq]
   exact i9 e
  ·rename_i hq
   rw [if_neg hq]
   exact i9 e
 case call c =>
  obtain ⟨callee, args, argTypes⟩ := c
  have hcal : callee = .builtin .len := by
   split at hl
   ·rename_i hq; exact hq
   ·cases hl
  subst hcal
  simp only [Ie, F7, Py, J6] at e ⊢
  split at e
  ·rename_i x T ha ht
   have ha' : args = #[x] := by apply Array.toList_inj.1; simpa using ha
   subst ha'
   have hs1 : E0 [x] ⊆ Bn ⟨dst, .call ⟨.builtin .len, #[x], argTypes⟩, type, pos, after, guard⟩ := fun i hi => by
    cases x <;> simp [E0, Bn, Op.operands, Call.operands] at hi ⊢
    exact hi
   have hop := P3 (s := t) (t := s) (x := x) (fun i hi => hc i (hs1 hi))
   have hx := Xy hop
   have hrr : ∀ id, t.leaf x = some (.row id) → t.res id = s.res id := fun id hid => by
    obtain ⟨i, h1, h2⟩ := i7 hid
    exact hr rfl i (hs1 h1) id h2
   have hcc : Fr P t ⟨dst, .call ⟨.builtin .len, #[x], argTypes⟩, type, pos, after, guard⟩ = Fr P s ⟨dst, .call ⟨.builtin .len, #[x], argTypes⟩, type, pos, after, guard⟩ := by
    have hcx := Ri hop
    unfold Fr
    have e1 : ∀ y ∈ (Op.call ⟨.builtin .len, #[x], argTypes⟩).operands.toList, t.conc y = s.conc y := fun y hy => by
     simp [Op.operands, Call.operands] at hy
     rw [hy]; exact hcx
    rw [P6 e1]
    split
    ·have : execOp (fun x => (t.conc x).getD undef) ⟨dst, .call ⟨.builtin .len, #[x], argTypes⟩, type, pos, after, guard⟩ = execOp (fun x => (s.conc x).getD undef) ⟨dst, .call ⟨.builtin .len, #[x], argTypes⟩, type, pos, after, guard⟩ :=
      execOp_congr _ (fun cs b q => by cases q) (fun y hy => by show (t.conc y).getD undef = (s.conc y).getD undef; rw [e1 y (Array.mem_toList_iff.2 hy)])
     rw [this]
    ·rfl
   split at e
   ·rename_i hsl
    rw [if_pos hsl]
    rw [P4 hx hrr, i8 hx hrr, Aan hx hrr (Ri hop)] at e
    split at e
    ·rename_i hq
     rw [if_pos hq]
     exact T8 e
    ·rename_i hq
     rw [if_neg hq]
     exact T8 e
   ·rename_i hsl
    rw [if_neg hsl]
    rw [hcc, W0 hx hrr] at e
    split at e
    ·rename_i hq
     rw [if_pos hq]
     exact T8 e
    ·rename_i hq
     rw [if_neg hq]
     exact T8 e
  ·cases e
theorem Aea {sigs : Tb} (hs : Az P sigs) (h : Ax n B Iq s g a w) {nid : Nat} {o : Oper} {av : AV} {v' : St} (e : Nw P sigs s nid o = some (av, v')) :
  Gm P n B Iq s g a w o av (if F9 o then s else s.lay v' (Ig s o ++ F3 nid)) := by
 unfold Nw at e
 dsimp only at e
 split at e
 ·rename_i hfr
  split at e
  ·rename_i hcl
   obtain ⟨p, e1, e⟩ := Option.bind_eq_some_iff.1 e
   split at e
   ·rename_i h1
    split at e <;> cases e
    rename_i h2
    cases hlt : F9 o with
    | true =>
     refine Ma hs h (Aao (t := s.view (Bn o) (Ig s o)) hlt (fun i hi => ?_) (fun hm i hi id hid => ?_) e1).2
     ·simp [St.view, A7.2 hi]
     ·have : (s.view (Bn o) (Ig s o)).cell i = s.cell i := by simp [St.view, A7.2 hi]
      rw [this] at hid
      simp [St.view, A7.2 (Va hm i hi id hid)]
    | false =>
     have c1 := Xx hcl
     have c2 := Xx h2
     have hmv : Wy o = false := by
      cases hq : Wy o with
      | false => rfl
      | true => rw [Ad7 hq] at hlt; cases hlt
     rw [hmv, Bool.false_or] at h1
     have hV := Ad9 h (sl := Bn o) (ids := Ig s o) (Va hmv) c1.1 (c1.2 hlt)
     intro K Q hK
     refine Ma hs hV e1 K Q fun v gv' w' k1 k2 k3 => ?_
     obtain ⟨g', q1, q2, q3⟩ := Ah0 h (Oq hfr) k1 k2 (Rh.1 h1) c2.1 (c2.2 hlt)
     exact hK v g' w' q1 q2 (q3 v k3)
   ·cases e
  ·cases e
 ·cases e
end
end Go.Proofs.Ytkfoebbjncngjaa.R

