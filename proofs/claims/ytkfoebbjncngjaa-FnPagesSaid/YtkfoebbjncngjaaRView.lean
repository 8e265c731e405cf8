/- One operation, told of that part of the state that it looks at. No condition. -/
import Derived.Test.YtkfoebbjncngjaaRInl
namespace Go.Proofs.Ytkfoebbjncngjaa.R
open Go Go.RowKit
set_option linter.unusedVariables false
set_option linter.unusedSimpArgs false
def Kz : Lf → List Nat
 | .row id => [id]
 | .ptr id _ => [id]
 | .rp id _ _ => [id]
 | .sp id => [id]
 | _ => []
def H2 : List Lf → List Nat
 | [] => []
 | l :: r => Kz l ++ H2 r
def Qn (v : Vl) : List Nat := H2 v.ls
def Pn : List Vl → List Nat
 | [] => []
 | v :: r => Qn v ++ Pn r
def D5 : AV → List Nat
 | .dead => []
 | .vl v => Qn v
 | .tp vs => Pn vs
 | .fn _ ls => H2 ls
def H3 : Res → List Nat
 | .box _ ls => H2 ls
 | _ => []
def Qo : Res → List Nat
 | .last _ _ _ _ j => [j]
 | _ => []
def C6 : List Operand → List Nat
 | [] => []
 | .tmp t :: r => t :: C6 r
 | _ :: r => C6 r
def A4 (o : Oper) : List Nat := C6 o.op.operands.toList
def Cw (l : List Nat) (i : Nat) : Bool := match l with
 | [] => false
 | j :: r => Nat.beq j i || Cw r i
theorem Aw {l : List Nat} {i : Nat} : Cw l i = true ↔ i ∈ l := by
 induction l with
 | nil => simp [Cw]
 | cons j r ih =>
  simp only [Cw, Bool.or_eq_true, ih, List.mem_cons, Nat.beq_eq]
  constructor
  ·rintro (h | h)
   ·exact .inl h.symm
   ·exact .inr h
  ·rintro (h | h)
   ·exact .inl h.symm
   ·exact .inr h
def B3 (s : St) : List Nat → List Nat
 | [] => []
 | i :: r => D5 (s.cell i) ++ B3 s r
def Cm (s : St) : List Nat → List Nat
 | [] => []
 | i :: r => H3 (s.res i) ++ Cm s r
def L9 (s : St) (sl : List Nat) : List Nat :=
 let l0 := B3 s sl
 let l1 := l0 ++ Cm s l0
 l1 ++ Cm s l1
def K0 (s : St) : List Nat → List Nat
 | [] => []
 | i :: r => Qo (s.res i) ++ K0 s r
def D6 (o : Oper) : Bool := match o.op with
 | .move x => !Oj x
 | .assign x => !Oj x
 | .indexAddr _ _ _ => true
 | .call c => (match c.callee with
  | .builtin .len => true
  | _ => false)
 | _ => false
def R3 (o : Oper) : Bool := match o.op with
 | .move x => !Oj x
 | .assign x => !Oj x
 | _ => false
theorem k7 {o : Oper} (h : R3 o = true) : D6 o = true := by
 unfold R3 at h
 unfold D6
 split at h
 ·rename_i q; rw [q]; exact h
 ·rename_i q; rw [q]; exact h
 ·cases h
def F5 (s : St) (o : Oper) : List Nat := if R3 o then [] else if D6 o then L9 s (A4 o) else L9 s (A4 o) ++ K0 s (L9 s (A4 o))
def Ma (l m : List Nat) : Bool := match l with
 | [] => true
 | i :: r => Cw m i && Ma r m
theorem Nh {l m : List Nat} : Ma l m = true ↔ ∀ i ∈ l, i ∈ m := by
 induction l with
 | nil => simp [Ma]
 | cons j r ih => simp [Ma, Aw, ih]
def Qp : Nat := 4
def D0 (nid : Nat) : List Nat := [nid, nid + 1, nid + 2, nid + 3]
def St.view (s : St) (sl ids : List Nat) : St := ⟨fun i => if Cw sl i then s.cell i else .dead, fun id => if Cw ids id then s.res id else .unborn⟩
def St.lay (s v : St) (m : List Nat) : St := ⟨s.cell, fun id => if Cw m id then v.res id else s.res id⟩
def Fr (o : Oper) (s : St) (m : List Nat) : Bool := Ma (Cm s m) m && (D6 o || Ma (K0 s m) m)
def Ka (P : Program) (sigs : Tb) (s : St) (nid : Nat) (o : Oper) : Option (AV × St) :=
 let sl := A4 o
 let ids := F5 s o
 if Eu s nid Qp then (if Fr o s ids then (F3 P sigs (s.view sl ids) nid o).bind fun p =>
  if R3 o || Ma (D5 p.1) (ids ++ D0 nid) then (if Fr o p.2 (ids ++ D0 nid) then some p else none) else none
 else none) else none
section
variable {P : Program} {n B : Nat} {Iq : List Nat} {s : St} {g : Gh} {a : Act} {w : World}
theorem Iw (h : ∀ id, C3 s g w id (s.res id)) {id b : Nat} (hb : g.blk id = some b) : (s.res id).live = true := by
 have r := h id
 cases hr : s.res id with
 | box T ls => rfl
 | row e t xs => rfl
 | unborn => rw [hr] at r; exact absurd (hb.symm.trans r) (by simp)
 | dead => rw [hr] at r; exact absurd (hb.symm.trans r) (by simp)
 | frozen t xs => rw [hr] at r; exact absurd (hb.symm.trans r.2) (by simp)
 | last _ _ _ _ _ => rfl
 | map _ _ => rfl
 | iter _ _ _ _ => rfl
theorem A1.part {s s' : St} {g g' : Gh} {w : World} {m : List Nat} (hS : ∀ b, Bd s g b → b < w.heap.size → Bd s' g' b) (hm : ∀ id ∈ m, s'.res id = s.res id ∧ g'.blk id = g.blk id ∧ g'.hdr id = g.hdr id) :
  ∀ {l : Lf} {u : Value}, (∀ id ∈ Kz l, id ∈ m) → A1 s g w l u → A1 s' g' w l u
 | .c _, _, _, h => h
 | .sl _ _, _, _, h => Ty.K_keep (fun b hb hl => ⟨hS b hb hl, rfl⟩) h
 | .row id, u, hi, h => by
  obtain ⟨e1, e2, e3⟩ := hm id (hi id (by simp [Kz]))
  simp only [A1] at h ⊢
  rw [e1, e3]
  exact h
 | .ptr id off, u, hi, h => by
  obtain ⟨e1, e2, e3⟩ := hm id (hi id (by simp [Kz]))
  simp only [A1] at h ⊢
  rw [e1, e2]
  exact h
 | .ep t xs i off, u, _, ⟨ad, cs, h1, h2, h3, h4, h5⟩ => ⟨ad, cs, h1, hS _ h2 h3, h3, Ty.K_keep (fun b hb hl => ⟨hS b hb hl, rfl⟩) h4, h5⟩
 | .rp id i off, u, hi, h => by
  obtain ⟨e1, e2, e3⟩ := hm id (hi id (by simp [Kz]))
  simp only [A1] at h ⊢
  rw [e1, e2]
  exact h
 | .sp id, u, hi, h => by
  obtain ⟨e1, e2, e3⟩ := hm id (hi id (by simp [Kz]))
  simp only [A1] at h ⊢
  rw [e1, e2]
  exact h
section
variable {s' : St} {g' : Gh} {m : List Nat} (hS : ∀ b, Bd s g b → b < w.heap.size → Bd s' g' b) (hm : ∀ id ∈ m, s'.res id = s.res id ∧ g'.blk id = g.blk id ∧ g'.hdr id = g.hdr id)
 include hS hm
theorem Bt.part : ∀ {ls : List Lf} {cs : List Value}, (∀ id ∈ H2 ls, id ∈ m) → Bt s g w ls cs → Bt s' g' w ls cs
 | [], [], _, _ => trivial
 | [], _ :: _, _, h => h.elim
 | _ :: _, [], _, h => h.elim
 | l :: ls, _ :: _, hi, h => ⟨⟨A1.part hS hm (fun id q => hi id (by simp [H2, q])) h.1.1, h.1.2⟩, Bt.part (fun id q => hi id (by simp [H2, q])) h.2⟩
theorem Lp.part {v : Vl} {u : Value} (hi : ∀ id ∈ Qn v, id ∈ m) (h : Lp s g w v u) : Lp s' g' w v u := by
 cases v with
 | lf l => exact ⟨A1.part hS hm (fun id q => hi id (by simp [Qn, Vl.ls, H2, q])) h.1, h.2⟩
 | ag ls =>
  obtain ⟨cs, e, hL⟩ := h
  exact ⟨cs, e, Bt.part hS hm hi hL⟩
theorem G0.part {v : AV} {u : Value} (hi : ∀ id ∈ D5 v, id ∈ m) (h : G0 s g w v u) : G0 s' g' w v u := by
 cases v with
 | dead => trivial
 | vl v => exact Lp.part hS hm hi h
 | tp vs =>
  obtain ⟨us, h1, h2, h3⟩ := h
  refine ⟨us, h1, h2, fun j l hl => ?_⟩
  obtain ⟨v, e1, e2⟩ := h3 j l hl
  refine ⟨v, e1, Lp.part hS hm (fun id q => hi id ?_) e2⟩
  have hmem := List.mem_of_getElem? hl
  clear h1 h2 h3 hl e1 e2 hi
  induction vs with
  | nil => cases hmem
  | cons x r ih =>
   rcases List.mem_cons.1 hmem with rfl | hmem
   ·simp [D5, Pn, q]
   ·have := ih hmem
    simp only [D5, Pn, List.mem_append] at this ⊢
    exact .inr this
 | fn f ls =>
  obtain ⟨cs, h1, h2⟩ := h
  exact ⟨cs, h1, Bt.part hS hm hi h2⟩
theorem C3.part {id : Nat} (hid : id ∈ m) {r : Res} (hi : ∀ j ∈ H3 r, j ∈ m) (hwk : ∀ j ∈ Qo r, j ∈ m) (h : C3 s g w id r) : C3 s' g' w id r := by
 obtain ⟨e1, e2, e3⟩ := hm id hid
 cases r with
 | unborn => exact e2.trans h
 | dead => exact e2.trans h
 | box T ls =>
  obtain ⟨b, cs, h1, h2, h3⟩ := h
  exact ⟨b, cs, e2.trans h1, h2, Bt.part hS hm hi h3⟩
 | row e t xs =>
  obtain ⟨cs, h1, h2, h3⟩ := h
  exact ⟨cs, by rw [e3]; exact h1, h2.imp hS, by rw [e2, e3]; exact h3⟩
 | frozen t xs =>
  obtain ⟨h1, h2⟩ := h
  exact ⟨by rw [e3]; exact Ty.K_keep (fun b hb hl => ⟨hS b hb hl, rfl⟩) h1, e2.trans h2⟩
 | last e t xs c j =>
  obtain ⟨cs, h1, h2, h3, h4⟩ := h
  obtain ⟨q1, q2, q3⟩ := hm j (hwk j (by simp [Qo]))
  refine ⟨cs, by rw [e3]; exact h1, h2.imp hS, by rw [e2, e3]; exact h3, fun u hc hu => ?_⟩
  rw [q1, q3]
  exact h4 u hc hu
 | map t xs =>
  obtain ⟨b, es, clock, h1, h2, h3⟩ := h
  exact ⟨b, es, clock, e2.trans h1, e3.trans h2, h3⟩
 | iter t xs seen cur =>
  obtain ⟨b, r, es, clock, since, c0, sn, h1, h2, h3, h4, h5, h6⟩ := h
  exact ⟨b, r, es, clock, since, c0, sn, e2.trans h1, e3.trans h2, h3, hS b h4 h5, h5, h6⟩
end
theorem Qq {i id : Nat} : ∀ {l : List Nat}, i ∈ l → id ∈ Qo (s.res i) → id ∈ K0 s l
 | j :: r, h, q => by
  rcases List.mem_cons.1 h with rfl | h
  ·exact List.mem_append_left _ q
  ·exact List.mem_append_right _ (Qq h q)
def Gh.view (s : St) (g : Gh) (ids : List Nat) : Gh := ⟨fun id => if Cw ids id then g.blk id else none, g.hdr, fun b => g.av b ∨ ∃ id, id ∉ ids ∧ g.blk id = some b⟩
theorem Kb {i id : Nat} : ∀ {sl : List Nat}, i ∈ sl → id ∈ D5 (s.cell i) → id ∈ B3 s sl
 | j :: r, h, q => by
  rcases List.mem_cons.1 h with rfl | h
  ·exact List.mem_append_left _ q
  ·exact List.mem_append_right _ (Kb h q)
theorem Om {i id : Nat} : ∀ {l : List Nat}, i ∈ l → id ∈ H3 (s.res i) → id ∈ Cm s l
 | j :: r, h, q => by
  rcases List.mem_cons.1 h with rfl | h
  ·exact List.mem_append_left _ q
  ·exact List.mem_append_right _ (Om h q)
theorem k8 {sl ids : List Nat} (b : Nat) (hb : Bd s g b) (hres : ∀ id, C3 s g w id (s.res id)) : Bd (s.view sl ids) (g.view s ids) b := by
 refine ⟨?_, fun id hl hk => ?_⟩
 ·rintro (q | ⟨id, q1, q2⟩)
  ·exact hb.1 q
  ·exact hb.2 id (Iw hres q2) q2
 ·simp only [Gh.view] at hk
  split at hk
  ·rename_i hid
   exact hb.2 id (Iw hres hk) hk
  ·cases hk
theorem k9 (h : As n B Iq s g a w) {sl ids : List Nat} (hc : ∀ i ∈ sl, ∀ id ∈ D5 (s.cell i), id ∈ ids) (hr : ∀ i ∈ ids, ∀ id ∈ H3 (s.res i), id ∈ ids) (hw : ∀ i ∈ ids, ∀ id ∈ Qo (s.res i), id ∈ ids) :
  As n w.heap.size (ids.filterMap g.blk) (s.view sl ids) (g.view s ids) a w := by
 have hS : ∀ b, Bd s g b → b < w.heap.size → Bd (s.view sl ids) (g.view s ids) b := fun b hb _ => k8 b hb h.res
 have hm : ∀ id ∈ ids, (s.view sl ids).res id = s.res id ∧ (g.view s ids).blk id = g.blk id ∧ (g.view s ids).hdr id = g.hdr id := by
  intro id hid
  have := Aw.2 hid
  refine ⟨?_, ?_, rfl⟩
  ·simp [St.view, this]
  ·simp [Gh.view, this]
 refine ⟨h.size, h.defers, Nat.le_refl _, fun i => ?_, fun id => ?_, fun id id' b q1 q2 => ?_, fun id b q => ?_, fun b q => ?_⟩
 ·show G0 _ _ _ (if Cw sl i then s.cell i else .dead) _
  split
  ·rename_i hi
   exact G0.part hS hm (hc i (Aw.1 hi)) (h.cell i)
  ·trivial
 ·by_cases hid : id ∈ ids
  ·rw [(hm id hid).1]
   exact C3.part hS hm hid (hr id hid) (hw id hid) (h.res id)
  ·have hf : Cw ids id = false := by
    cases hq : Cw ids id
    ·rfl
    ·exact absurd (Aw.1 hq) hid
   have : (s.view sl ids).res id = .unborn := by simp [St.view, hf]
   rw [this]
   show (g.view s ids).blk id = none
   simp [Gh.view, hf]
 ·simp only [Gh.view] at q1 q2
  split at q1
  ·split at q2
   ·exact h.inj id id' b q1 q2
   ·cases q2
  ·cases q1
 ·simp only [Gh.view] at q
  split at q
  ·rename_i hid
   have hid := Aw.1 hid
   refine ⟨(h.lt id b q).1, .inl (List.mem_filterMap.2 ⟨id, hid, q⟩), ?_⟩
   rintro (q2 | ⟨j, q2, q3⟩)
   ·exact (h.lt id b q).2.2 q2
   ·exact q2 (by rw [h.inj j id b q3 q]; exact hid)
  ·cases q
 ·rcases q with q | ⟨id, q1, q2⟩
  ·have := h.avB b q
   have := h.base
   omega
  ·exact (h.lt id b q2).1
theorem Vv {l m : List Nat} (h : Ma (Cm s l) m = true) : ∀ i ∈ l, ∀ id ∈ H3 (s.res i), id ∈ m :=
 fun i hi id hid => Nh.1 h id (Om hi hid)
theorem On {sl : List Nat} : ∀ i ∈ sl, ∀ id ∈ D5 (s.cell i), id ∈ L9 s sl :=
 fun i hi id hid => List.mem_append_left _ (List.mem_append_left _ (Kb hi hid))
theorem K1 {nid : Nat} (h : Eu s nid Qp = true) : ∀ id ∈ D0 nid, s.res id = .unborn := by
 intro id hid
 have : nid ≤ id ∧ id < nid + 4 := by
  simp only [D0, List.mem_cons, List.not_mem_nil, or_false] at hid
  omega
 exact Qb h id this.1 this.2
theorem Ab6 (h : As n B Iq s g a w) {sl ids : List Nat} {nid : Nat} {v' : St} {gv' : Gh} {w' : World} {av : AV} (hfr : ∀ id ∈ D0 nid, s.res id = .unborn)
  (hgo : Go w.heap.size (ids.filterMap g.blk) (s.view sl ids) (g.view s ids) w v' gv' w') (hR : As n w.heap.size (ids.filterMap g.blk) v' gv' a w')
  (hav : ∀ id ∈ D5 av, id ∈ ids ++ D0 nid) (hres : ∀ i ∈ ids ++ D0 nid, ∀ id ∈ H3 (v'.res i), id ∈ ids ++ D0 nid) (hwk : ∀ i ∈ ids ++ D0 nid, ∀ id ∈ Qo (v'.res i), id ∈ ids ++ D0 nid) :
  ∃ g', Go B Iq s g w (s.lay v' (ids ++ D0 nid)) g' w' ∧ As n B Iq (s.lay v' (ids ++ D0 nid)) g' a w' ∧ ∀ u, G0 v' gv' w' av u → G0 (s.lay v' (ids ++ D0 nid)) g' w' av u := by
 generalize hm : ids ++ D0 nid = m at hav hres hwk ⊢
 have hidm : ∀ id ∈ ids, id ∈ m := fun id q => by rw [← hm]; exact List.mem_append_left _ q
 have hmem : ∀ id ∈ m, id ∈ ids ∨ id ∈ D0 nid := fun id q => by rw [← hm] at q; exact List.mem_append.1 q
 have hin : ∀ id, Cw m id = true ↔ id ∈ m := fun id => Aw
 have hout : ∀ {id}, id ∉ m → Cw m id = false := fun {id} q => by
  cases hq : Cw m id
  ·rfl
  ·exact absurd ((hin id).1 hq) q
 refine ⟨⟨fun id => if Cw m id then gv'.blk id else g.blk id, fun id => if Cw m id then gv'.hdr id else g.hdr id, g.av⟩, ?_⟩
 generalize hg' : (⟨fun id => if Cw m id then gv'.blk id else g.blk id, fun id => if Cw m id then gv'.hdr id else g.hdr id, g.av⟩ : Gh) = g'
 generalize hs' : s.lay v' m = s'
 have e1 : ∀ id ∈ m, s'.res id = v'.res id ∧ g'.blk id = gv'.blk id ∧ g'.hdr id = gv'.hdr id := by
  intro id hid
  have := (hin id).2 hid
  subst hs' hg'
  simp [St.lay, this]
 have e2 : ∀ id, id ∉ m → s'.res id = s.res id ∧ g'.blk id = g.blk id ∧ g'.hdr id = g.hdr id := by
  intro id hid
  have := hout hid
  subst hs' hg'
  simp [St.lay, this]
 have ecell : s'.cell = s.cell := by subst hs'; rfl
 have eav : g'.av = g.av := by subst hg'; rfl
 have eavv : gv'.av = (g.view s ids).av := hgo.av
 have liveBlk : ∀ id b, g.blk id = some b → (s.res id).live = true := fun id b q => Iw h.res q
 have hS2 : ∀ b, Bd v' gv' b → b < w'.heap.size → Bd s' g' b := by
  rintro b ⟨q1, q2⟩ _
  rw [eavv] at q1
  refine ⟨by rw [eav]; exact fun q => q1 (.inl q), fun id hl hk => ?_⟩
  by_cases hid : id ∈ m
  ·obtain ⟨a1, a2, a3⟩ := e1 id hid
   rw [a1] at hl
   rw [a2] at hk
   exact q2 id hl hk
  ·obtain ⟨a1, a2, a3⟩ := e2 id hid
   rw [a2] at hk
   exact q1 (.inr ⟨id, fun q => hid (hidm id q), hk⟩)
 have hS : ∀ b, Bd s g b → b < w.heap.size → Bd s' g' b ∧ w'.heap[b]? = w.heap[b]? := by
  intro b hb hlt
  obtain ⟨k1, k2⟩ := hgo.S b (k8 b hb h.res) hlt
  exact ⟨hS2 b k1 (Nat.lt_of_lt_of_le hlt hgo.kp.size), k2⟩
 have hI : ∀ id, Ak s g s' g' id := by
  intro id
  by_cases hid : id ∈ m
  ·obtain ⟨a1, a2, a3⟩ := e1 id hid
   rcases hmem id hid with q | q
   ·have r := hgo.ref id
    unfold Ak at r ⊢
    have hq := Aw.2 q
    have v1 : (s.view sl ids).res id = s.res id := by simp [St.view, hq]
    have v2 : (g.view s ids).blk id = g.blk id := by simp [Gh.view, hq]
    rw [v1, v2] at r
    rw [a1, a2, a3]
    exact r
   ·unfold Ak
    rw [hfr id q]
    exact .inr trivial
  ·obtain ⟨a1, a2, a3⟩ := e2 id hid
   exact Ak.same a1 a2 a3
 have hKp : Kp B Iq w w' := ⟨hgo.kp.os, hgo.kp.tape, hgo.kp.output, hgo.kp.size, fun k hk hkI => by
  refine hgo.kp.block k (Nat.lt_of_lt_of_le hk h.base) (fun q => ?_)
  obtain ⟨id, q1, q2⟩ := List.mem_filterMap.1 q
  rcases (h.lt id k q2).2.1 with q3 | q3
  ·exact hkI q3
  ·omega⟩
 refine ⟨⟨hKp, hS, hI, eav⟩, ?_, fun u hu => G0.part hS2 e1 hav hu⟩
 refine h.step h.size h.defers hgo.kp.size hS hI (fun i => .inl ⟨by rw [ecell], rfl⟩) (fun j => ?_) (fun i j b hi hj => ?_) (fun i b hi => ?_) eav
 ·by_cases hj : j ∈ m
  ·right
   rw [(e1 j hj).1]
   exact C3.part hS2 e1 hj (hres j hj) (hwk j hj) (hR.res j)
  ·left
   obtain ⟨a1, a2, a3⟩ := e2 j hj
   refine ⟨a1, a2, a3, fun b hb => hgo.kp.block b (h.lt j b hb).1 (fun q => ?_)⟩
   obtain ⟨id, q1, q2⟩ := List.mem_filterMap.1 q
   exact hj (by rw [h.inj j id b hb q2]; exact hidm id q1)
 ·have far : ∀ i j b, i ∈ m → g'.blk i = some b → j ∉ m → g'.blk j = some b → False := by
   intro i j b him hi hjm hj
   rw [(e1 i him).2.1] at hi
   rw [(e2 j hjm).2.1] at hj
   refine (hR.lt i b hi).2.2 ?_
   rw [eavv]
   exact .inr ⟨j, fun q => hjm (hidm j q), hj⟩
  by_cases him : i ∈ m <;> by_cases hjm : j ∈ m
  ·rw [(e1 i him).2.1] at hi
   rw [(e1 j hjm).2.1] at hj
   exact hR.inj i j b hi hj
  ·exact (far i j b him hi hjm hj).elim
  ·exact (far j i b hjm hj him hi).elim
  ·rw [(e2 i him).2.1] at hi
   rw [(e2 j hjm).2.1] at hj
   exact h.inj i j b hi hj
 ·by_cases him : i ∈ m
  ·rw [(e1 i him).2.1] at hi
   obtain ⟨k1, k2, k3⟩ := hR.lt i b hi
   rw [eavv] at k3
   refine ⟨k1, ?_, fun q => k3 (.inl q)⟩
   rcases k2 with k2 | k2
   ·obtain ⟨id, q1, q2⟩ := List.mem_filterMap.1 k2
    exact (h.lt id b q2).2.1
   ·exact .inr (Nat.le_trans h.base k2)
  ·rw [(e2 i him).2.1] at hi
   obtain ⟨k1, k2⟩ := h.lt i b hi
   exact ⟨Nat.lt_of_lt_of_le k1 hgo.kp.size, k2⟩
theorem Sz {o : Oper} {m : List Nat} (h : Fr o s m = true) : (∀ i ∈ m, ∀ id ∈ H3 (s.res i), id ∈ m) ∧ (D6 o = false → ∀ i ∈ m, ∀ id ∈ Qo (s.res i), id ∈ m) := by
 simp only [Fr, Bool.and_eq_true, Bool.or_eq_true] at h
 refine ⟨Vv h.1, fun hl i hi id hid => ?_⟩
 rcases h.2 with q | q
 ·rw [hl] at q; cases q
 ·exact Nh.1 q id (Qq hi hid)
theorem Qr {o : Oper} (hm : R3 o = false) : ∀ i ∈ A4 o, ∀ id ∈ D5 (s.cell i), id ∈ F5 s o := fun i hi id hid => by
 unfold F5
 rw [hm]
 simp only [Bool.false_eq_true, if_false]
 split
 ·exact On i hi id hid
 ·exact List.mem_append_left _ (On i hi id hid)
section
variable {s t : St}
theorem Mb {x : Operand} (h : ∀ i ∈ C6 [x], s.cell i = t.cell i) : s.op x = t.op x := by
 cases x with
 | tmp i => exact h i (by simp [C6])
 | const v => rfl
 | global _ => rfl
 | func _ => rfl
theorem S0 {x : Operand} (h : s.op x = t.op x) : s.leaf x = t.leaf x := by unfold St.leaf; rw [h]
theorem Ni {x : Operand} (h : s.op x = t.op x) : s.conc x = t.conc x := by unfold St.conc; rw [h]
theorem Vw {x : Operand} {id : Nat} (h : s.leaf x = some (.row id)) : ∃ i ∈ C6 [x], id ∈ D5 (s.cell i) := by
 cases x with
 | tmp i =>
  refine ⟨i, by simp [C6], ?_⟩
  unfold St.leaf at h
  simp only [St.op] at h
  split at h
  ·rename_i l hl
   cases h
   rw [hl]
   simp [D5, Qn, Vl.ls, H2, Kz]
  ·cases h
 | const v =>
  unfold St.leaf at h
  simp only [St.op] at h
  split at h
  ·rename_i l hl
   cases h
   unfold Pb at hl
   split at hl
   ·split at hl <;> cases hl
   ·cases hl
   ·cases hl
  ·cases h
 | global _ => cases h
 | func _ => cases h
theorem Mc {x : Operand} (h : s.leaf x = t.leaf x) (hr : ∀ id, s.leaf x = some (.row id) → s.res id = t.res id) : Jy s x = Jy t x := by
 unfold Jy
 rw [← h]
 split
 ·rename_i id hl
  rw [hr id hl]
 ·rfl
theorem Yv {x : Operand} (h : s.leaf x = t.leaf x) (hr : ∀ id, s.leaf x = some (.row id) → s.res id = t.res id) : (s.leaf x).bind s.sl = (t.leaf x).bind t.sl := by
 rw [← h]
 cases hl : s.leaf x with
 | none => rfl
 | some l =>
  cases l with
  | row id => simp only [Option.bind_some, St.sl]; rw [hr id hl]
  | _ => rfl
theorem R4 {T : TypeId} {x y : Operand} (h : s.leaf x = t.leaf x) (hr : ∀ id, s.leaf x = some (.row id) → s.res id = t.res id) (hy : s.conc y = t.conc y) : G9 P s T x y = G9 P t T x y := by
 unfold G9
 rw [← h, ← hy]
 split
 ·split
  ·rename_i id _ _ _ hl _
   rw [hr _ hl]
  ·rfl
 ·rfl
theorem Vx {T : TypeId} {x : Operand} (h : s.leaf x = t.leaf x) (hr : ∀ id, s.leaf x = some (.row id) → s.res id = t.res id) : M6 P s T x = M6 P t T x := by
 unfold M6
 rw [← h]
 split
 ·split
  ·rename_i id hl
   rw [hr _ hl]
  ·rfl
 ·rfl
end
theorem Me {s t : St} {T : TypeId} {x y : Operand} (h : s.leaf x = t.leaf x) (hr : ∀ id, s.leaf x = some (.row id) → s.res id = t.res id) (hy : s.conc y = t.conc y) : C5 P s T x y = C5 P t T x y := by
 unfold C5
 rw [Yv h hr, hy]
theorem Xq {s t : St} {T : TypeId} {x : Operand} (h : s.leaf x = t.leaf x) (hr : ∀ id, s.leaf x = some (.row id) → s.res id = t.res id) (hy : s.conc x = t.conc x) : Sj P s T x = Sj P t T x := by
 unfold Sj
 rw [Yv h hr, hy]
theorem Vy {s t : St} {X : Option (List Bool × Lf)} {av : AV} {v' : St} (e : Dt (lfC t X) = some (av, v')) : v' = t ∧ Dt (lfC s X) = some (av, s) := by
 cases X with
 | none => cases e
 | some p =>
  simp only [lfC, Dt] at e ⊢
  split at e <;> cases e
  rename_i hq
  exact ⟨rfl, by rw [if_pos hq]⟩
theorem Po {s t : St} {X : Option Value} {av : AV} {v' : St} (e : Dt (v0 t X) = some (av, v')) : v' = t ∧ Dt (v0 s X) = some (av, s) := by
 cases X with
 | none => cases e
 | some p =>
  simp only [v0, Dt] at e ⊢
  split at e <;> cases e
  rename_i hq
  exact ⟨rfl, by rw [if_pos hq]⟩
theorem Mf {s t : St} : ∀ {l : List Operand}, (∀ y ∈ l, s.conc y = t.conc y) → Hp s l = Hp t l
 | [], _ => rfl
 | y :: r, h => by
  simp only [Hp]
  rw [h y (by simp), Mf (fun z hz => h z (by simp [hz]))]
theorem R5 {s t : St} {T : TypeId} {x : Operand} (h : s.leaf x = t.leaf x) (hr : ∀ id, s.leaf x = some (.row id) → s.res id = t.res id) : Hb P s T x = Hb P t T x := by
 unfold Hb
 rw [← h]
 split
 ·rename_i hl
  rw [hr _ hl]
 ·rfl
theorem Xr {sigs : Tb} {nid : Nat} {o : Oper} {t v' : St} {av : AV} (hl : D6 o = true) (hc : ∀ i ∈ A4 o, t.cell i = s.cell i) (hr : R3 o = false → ∀ i ∈ A4 o, ∀ id ∈ D5 (t.cell i), t.res id = s.res id)
  (e : F3 P sigs t nid o = some (av, v')) : v' = t ∧ F3 P sigs s nid o = some (av, s) := by
 obtain ⟨dst, op, type, pos, after, guard⟩ := o
 cases op <;> simp only [D6] at hl <;> first | (cases hl; done) | skip
 case move x =>
  have hx : t.op x = s.op x := Mb (fun i hi => hc i (by simpa [A4, Op.operands] using hi))
  simp only [Bool.not_eq_true'] at hl
  simp only [F3, D4, L6, Hc, Is, hl, avS, Dt, Fm] at e ⊢
  cases e
  exact ⟨rfl, by rw [hx]; rfl⟩
 case assign x =>
  have hx : t.op x = s.op x := Mb (fun i hi => hc i (by simpa [A4, Op.operands] using hi))
  simp only [Bool.not_eq_true'] at hl
  simp only [F3, D4, L6, Hc, Is, hl, avS, Dt, Fm] at e ⊢
  cases e
  exact ⟨rfl, by rw [hx]; rfl⟩
 case indexAddr T x y =>
  have hs1 : C6 [x] ⊆ A4 ⟨dst, .indexAddr T x y, type, pos, after, guard⟩ := fun i hi => by
   cases x <;> simp [C6, A4, Op.operands] at hi ⊢
   exact .inl hi
  have hs2 : C6 [y] ⊆ A4 ⟨dst, .indexAddr T x y, type, pos, after, guard⟩ := fun i hi => by
   cases x <;> cases y <;> simp [C6, A4, Op.operands] at hi ⊢ <;> first | exact hi | exact .inr hi
  have hx := S0 (Mb (s := t) (t := s) (x := x) (fun i hi => hc i (hs1 hi)))
  have hy := Ni (Mb (s := t) (t := s) (x := y) (fun i hi => hc i (hs2 hi)))
  have hrr : ∀ id, t.leaf x = some (.row id) → t.res id = s.res id := fun id hid => by
   obtain ⟨i, h1, h2⟩ := Vw hid
   exact hr rfl i (hs1 h1) id h2
  simp only [F3, D4, L6, Hc] at e ⊢
  rw [Mc hx hrr, R4 hx hrr hy, Me hx hrr hy] at e
  split at e
  ·rename_i hq
   rw [if_pos hq]
   exact Vy e
  ·rename_i hq
   rw [if_neg hq]
   exact Vy e
 case call c =>
  obtain ⟨callee, args, argTypes⟩ := c
  have hcal : callee = .builtin .len := by
   split at hl
   ·rename_i hq; exact hq
   ·cases hl
  subst hcal
  simp only [F3, D4, L6, Hc] at e ⊢
  split at e
  ·rename_i x T ha ht
   have ha' : args = #[x] := by apply Array.toList_inj.1; simpa using ha
   subst ha'
   have hs1 : C6 [x] ⊆ A4 ⟨dst, .call ⟨.builtin .len, #[x], argTypes⟩, type, pos, after, guard⟩ := fun i hi => by
    cases x <;> simp [C6, A4, Op.operands, Call.operands] at hi ⊢
    exact hi
   have hop := Mb (s := t) (t := s) (x := x) (fun i hi => hc i (hs1 hi))
   have hx := S0 hop
   have hrr : ∀ id, t.leaf x = some (.row id) → t.res id = s.res id := fun id hid => by
    obtain ⟨i, h1, h2⟩ := Vw hid
    exact hr rfl i (hs1 h1) id h2
   have hcc : Dr P t ⟨dst, .call ⟨.builtin .len, #[x], argTypes⟩, type, pos, after, guard⟩ = Dr P s ⟨dst, .call ⟨.builtin .len, #[x], argTypes⟩, type, pos, after, guard⟩ := by
    have hcx := Ni hop
    unfold Dr
    have e1 : ∀ y ∈ (Op.call ⟨.builtin .len, #[x], argTypes⟩).operands.toList, t.conc y = s.conc y := fun y hy => by
     simp [Op.operands, Call.operands] at hy
     rw [hy]; exact hcx
    rw [Mf e1]
    split
    ·have : execOp (fun x => (t.conc x).getD undef) ⟨dst, .call ⟨.builtin .len, #[x], argTypes⟩, type, pos, after, guard⟩ = execOp (fun x => (s.conc x).getD undef) ⟨dst, .call ⟨.builtin .len, #[x], argTypes⟩, type, pos, after, guard⟩ :=
      execOp_congr _ (fun cs b q => by cases q) (fun y hy => by show (t.conc y).getD undef = (s.conc y).getD undef; rw [e1 y (Array.mem_toList_iff.2 hy)])
     rw [this]
    ·rfl
   split at e
   ·rename_i hsl
    rw [if_pos hsl]
    rw [Mc hx hrr, Vx hx hrr, Xq hx hrr (Ni hop)] at e
    split at e
    ·rename_i hq
     rw [if_pos hq]
     exact Po e
    ·rename_i hq
     rw [if_neg hq]
     exact Po e
   ·rename_i hsl
    rw [if_neg hsl]
    rw [hcc, R5 hx hrr] at e
    split at e
    ·rename_i hq
     rw [if_pos hq]
     exact Po e
    ·rename_i hq
     rw [if_neg hq]
     exact Po e
  ·cases e
theorem l2 {sigs : Tb} (hs : A7 P sigs) (h : As n B Iq s g a w) {nid : Nat} {o : Oper} {av : AV} {v' : St} (e : Ka P sigs s nid o = some (av, v')) :
  D2 P n B Iq s g a w o av (if D6 o then s else s.lay v' (F5 s o ++ D0 nid)) := by
 unfold Ka at e
 dsimp only at e
 split at e
 ·rename_i hfr
  split at e
  ·rename_i hcl
   obtain ⟨p, e1, e⟩ := Option.bind_eq_some_iff.1 e
   split at e
   ·rename_i h1
    split at e <;> cases e
    rename_i h2
    cases hlt : D6 o with
    | true =>
     refine Iv hs h (Xr (t := s.view (A4 o) (F5 s o)) hlt (fun i hi => ?_) (fun hm i hi id hid => ?_) e1).2
     ·simp [St.view, Aw.2 hi]
     ·have : (s.view (A4 o) (F5 s o)).cell i = s.cell i := by simp [St.view, Aw.2 hi]
      rw [this] at hid
      simp [St.view, Aw.2 (Qr hm i hi id hid)]
    | false =>
     have c1 := Sz hcl
     have c2 := Sz h2
     have hmv : R3 o = false := by
      cases hq : R3 o with
      | false => rfl
      | true => rw [k7 hq] at hlt; cases hlt
     rw [hmv, Bool.false_or] at h1
     have hV := k9 h (sl := A4 o) (ids := F5 s o) (Qr hmv) c1.1 (c1.2 hlt)
     intro K Q hK
     refine Iv hs hV e1 K Q fun v gv' w' k1 k2 k3 => ?_
     obtain ⟨g', q1, q2, q3⟩ := Ab6 h (K1 hfr) k1 k2 (Nh.1 h1) c2.1 (c2.2 hlt)
     exact hK v g' w' q1 q2 (q3 v k3)
   ·cases e
  ·cases e
 ·cases e
end
end Go.Proofs.Ytkfoebbjncngjaa.R

