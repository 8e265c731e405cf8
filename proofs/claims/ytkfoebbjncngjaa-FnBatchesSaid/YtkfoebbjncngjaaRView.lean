/- One operation, told of that part of the state that it looks at. No condition. -/
import Derived.Test.YtkfoebbjncngjaaRInl
namespace Go.Proofs.Ytkfoebbjncngjaa.R
open Go Go.RowKit
set_option linter.unusedVariables false
set_option linter.unusedSimpArgs false
def K3 : Lf → List Nat
 | .row id => [id]
 | .ptr id _ => [id]
 | .rp id _ _ => [id]
 | .sp id => [id]
 | _ => []
def Ie : List Lf → List Nat
 | [] => []
 | l :: r => K3 l ++ Ie r
def Qk (v : Vl) : List Nat := Ie v.ls
def Pd : List Vl → List Nat
 | [] => []
 | v :: r => Qk v ++ Pd r
def D2 : AV → List Nat
 | .dead => []
 | .vl v => Qk v
 | .tp vs => Pd vs
 | .fn _ ls => Ie ls
def If : Res → List Nat
 | .box _ ls => Ie ls
 | _ => []
def Ql : Res → List Nat
 | .last _ _ _ _ j => [j]
 | _ => []
def Dc : List Operand → List Nat
 | [] => []
 | .tmp t :: r => t :: Dc r
 | _ :: r => Dc r
def Bb (o : Oper) : List Nat := Dc o.op.operands.toList
def C4 (l : List Nat) (i : Nat) : Bool := match l with
 | [] => false
 | j :: r => Nat.beq j i || C4 r i
theorem A1 {l : List Nat} {i : Nat} : C4 l i = true ↔ i ∈ l := by
 induction l with
 | nil => simp [C4]
 | cons j r ih =>
  simp only [C4, Bool.or_eq_true, ih, List.mem_cons, Nat.beq_eq]
  constructor
  ·rintro (h | h)
   ·exact .inl h.symm
   ·exact .inr h
  ·rintro (h | h)
   ·exact .inl h.symm
   ·exact .inr h
def Cg (s : St) : List Nat → List Nat
 | [] => []
 | i :: r => D2 (s.cell i) ++ Cg s r
def Cw (s : St) : List Nat → List Nat
 | [] => []
 | i :: r => If (s.res i) ++ Cw s r
def L7 (s : St) (sl : List Nat) : List Nat :=
 let l0 := Cg s sl
 let l1 := l0 ++ Cw s l0
 l1 ++ Cw s l1
def K4 (s : St) : List Nat → List Nat
 | [] => []
 | i :: r => Ql (s.res i) ++ K4 s r
def D3 (o : Oper) : Bool := match o.op with
 | .move x => !N6 x
 | .assign x => !N6 x
 | .indexAddr _ _ _ => true
 | .call c => (match c.callee with
  | .builtin .len => true
  | _ => false)
 | _ => false
def R1 (o : Oper) : Bool := match o.op with
 | .move x => !N6 x
 | .assign x => !N6 x
 | _ => false
theorem Z9 {o : Oper} (h : R1 o = true) : D3 o = true := by
 unfold R1 at h
 unfold D3
 split at h
 ·rename_i q; rw [q]; exact h
 ·rename_i q; rw [q]; exact h
 ·cases h
def F4 (s : St) (o : Oper) : List Nat := if R1 o then [] else if D3 o then L7 s (Bb o) else L7 s (Bb o) ++ K4 s (L7 s (Bb o))
def L8 (l m : List Nat) : Bool := match l with
 | [] => true
 | i :: r => C4 m i && L8 r m
theorem Nj {l m : List Nat} : L8 l m = true ↔ ∀ i ∈ l, i ∈ m := by
 induction l with
 | nil => simp [L8]
 | cons j r ih => simp [L8, A1, ih]
def Qm : Nat := 4
def Dy (nid : Nat) : List Nat := [nid, nid + 1, nid + 2, nid + 3]
def St.view (s : St) (sl ids : List Nat) : St := ⟨fun i => if C4 sl i then s.cell i else .dead, fun id => if C4 ids id then s.res id else .unborn⟩
def St.lay (s v : St) (m : List Nat) : St := ⟨s.cell, fun id => if C4 m id then v.res id else s.res id⟩
def Ft (o : Oper) (s : St) (m : List Nat) : Bool := L8 (Cw s m) m && (D3 o || L8 (K4 s m) m)
def Kl (P : Program) (sigs : Tb) (s : St) (nid : Nat) (o : Oper) : Option (AV × St) :=
 let sl := Bb o
 let ids := F4 s o
 if Ey s nid Qm then (if Ft o s ids then (F2 P sigs (s.view sl ids) nid o).bind fun p =>
  if R1 o || L8 (D2 p.1) (ids ++ Dy nid) then (if Ft o p.2 (ids ++ Dy nid) then some p else none) else none
 else none) else none
section
variable {P : Program} {n B : Nat} {Iq : List Nat} {s : St} {g : Gh} {a : Act} {w : World}
theorem Ja (h : ∀ id, C9 s g w id (s.res id)) {id b : Nat} (hb : g.blk id = some b) : (s.res id).live = true := by
 have r := h id
 cases hr : s.res id with
 | box T ls => rfl
 | row e t xs => rfl
 | unborn => rw [hr] at r; exact absurd (hb.symm.trans r) (by simp)
 | dead => rw [hr] at r; exact absurd (hb.symm.trans r) (by simp)
 | frozen t xs => rw [hr] at r; exact absurd (hb.symm.trans r.2) (by simp)
 | last _ _ _ _ _ => rfl
 | map _ _ => rfl
 | iter _ _ _ _ => rfl
theorem A9.part {s s' : St} {g g' : Gh} {w : World} {m : List Nat} (hS : ∀ b, Bh s g b → b < w.heap.size → Bh s' g' b) (hm : ∀ id ∈ m, s'.res id = s.res id ∧ g'.blk id = g.blk id ∧ g'.hdr id = g.hdr id) :
  ∀ {l : Lf} {u : Value}, (∀ id ∈ K3 l, id ∈ m) → A9 s g w l u → A9 s' g' w l u
 | .c _, _, _, h => h
 | .sl _ _, _, _, h => Ty.K_keep (fun b hb hl => ⟨hS b hb hl, rfl⟩) h
 | .row id, u, hi, h => by
  obtain ⟨e1, e2, e3⟩ := hm id (hi id (by simp [K3]))
  simp only [A9] at h ⊢
  rw [e1, e3]
  exact h
 | .ptr id off, u, hi, h => by
  obtain ⟨e1, e2, e3⟩ := hm id (hi id (by simp [K3]))
  simp only [A9] at h ⊢
  rw [e1, e2]
  exact h
 | .ep t xs i off, u, _, ⟨ad, cs, h1, h2, h3, h4, h5⟩ => ⟨ad, cs, h1, hS _ h2 h3, h3, Ty.K_keep (fun b hb hl => ⟨hS b hb hl, rfl⟩) h4, h5⟩
 | .rp id i off, u, hi, h => by
  obtain ⟨e1, e2, e3⟩ := hm id (hi id (by simp [K3]))
  simp only [A9] at h ⊢
  rw [e1, e2]
  exact h
 | .sp id, u, hi, h => by
  obtain ⟨e1, e2, e3⟩ := hm id (hi id (by simp [K3]))
  simp only [A9] at h ⊢
  rw [e1, e2]
  exact h
section
variable {s' : St} {g' : Gh} {m : List Nat} (hS : ∀ b, Bh s g b → b < w.heap.size → Bh s' g' b) (hm : ∀ id ∈ m, s'.res id = s.res id ∧ g'.blk id = g.blk id ∧ g'.hdr id = g.hdr id)
 include hS hm
theorem B7.part : ∀ {ls : List Lf} {cs : List Value}, (∀ id ∈ Ie ls, id ∈ m) → B7 s g w ls cs → B7 s' g' w ls cs
 | [], [], _, _ => trivial
 | [], _ :: _, _, h => h.elim
 | _ :: _, [], _, h => h.elim
 | l :: ls, _ :: _, hi, h => ⟨⟨A9.part hS hm (fun id q => hi id (by simp [Ie, q])) h.1.1, h.1.2⟩, B7.part (fun id q => hi id (by simp [Ie, q])) h.2⟩
theorem Ln.part {v : Vl} {u : Value} (hi : ∀ id ∈ Qk v, id ∈ m) (h : Ln s g w v u) : Ln s' g' w v u := by
 cases v with
 | lf l => exact ⟨A9.part hS hm (fun id q => hi id (by simp [Qk, Vl.ls, Ie, q])) h.1, h.2⟩
 | ag ls =>
  obtain ⟨cs, e, hL⟩ := h
  exact ⟨cs, e, B7.part hS hm hi hL⟩
theorem G8.part {v : AV} {u : Value} (hi : ∀ id ∈ D2 v, id ∈ m) (h : G8 s g w v u) : G8 s' g' w v u := by
 cases v with
 | dead => trivial
 | vl v => exact Ln.part hS hm hi h
 | tp vs =>
  obtain ⟨us, h1, h2, h3⟩ := h
  refine ⟨us, h1, h2, fun j l hl => ?_⟩
  obtain ⟨v, e1, e2⟩ := h3 j l hl
  refine ⟨v, e1, Ln.part hS hm (fun id q => hi id ?_) e2⟩
  have hmem := List.mem_of_getElem? hl
  clear h1 h2 h3 hl e1 e2 hi
  induction vs with
  | nil => cases hmem
  | cons x r ih =>
   rcases List.mem_cons.1 hmem with rfl | hmem
   ·simp [D2, Pd, q]
   ·have := ih hmem
    simp only [D2, Pd, List.mem_append] at this ⊢
    exact .inr this
 | fn f ls =>
  obtain ⟨cs, h1, h2⟩ := h
  exact ⟨cs, h1, B7.part hS hm hi h2⟩
theorem C9.part {id : Nat} (hid : id ∈ m) {r : Res} (hi : ∀ j ∈ If r, j ∈ m) (hwk : ∀ j ∈ Ql r, j ∈ m) (h : C9 s g w id r) : C9 s' g' w id r := by
 obtain ⟨e1, e2, e3⟩ := hm id hid
 cases r with
 | unborn => exact e2.trans h
 | dead => exact e2.trans h
 | box T ls =>
  obtain ⟨b, cs, h1, h2, h3⟩ := h
  exact ⟨b, cs, e2.trans h1, h2, B7.part hS hm hi h3⟩
 | row e t xs =>
  obtain ⟨cs, h1, h2, h3⟩ := h
  exact ⟨cs, by rw [e3]; exact h1, h2.imp hS, by rw [e2, e3]; exact h3⟩
 | frozen t xs =>
  obtain ⟨h1, h2⟩ := h
  exact ⟨by rw [e3]; exact Ty.K_keep (fun b hb hl => ⟨hS b hb hl, rfl⟩) h1, e2.trans h2⟩
 | last e t xs c j =>
  obtain ⟨cs, h1, h2, h3, h4⟩ := h
  obtain ⟨q1, q2, q3⟩ := hm j (hwk j (by simp [Ql]))
  refine ⟨cs, by rw [e3]; exact h1, h2.imp hS, by rw [e2, e3]; exact h3, fun u hc hu => ?_⟩
  rw [q1, q3]
  exact h4 u hc hu
 | map t xs =>
  obtain ⟨b, es, clock, h1, h2, h3⟩ := h
  exact ⟨b, es, clock, e2.trans h1, e3.trans h2, h3⟩
 | iter t xs seen cur =>
  obtain ⟨b, r, es, clock, since, c0, sn, h1, h2, h3, h4, h5, h6⟩ := h
  exact ⟨b, r, es, clock, since, c0, sn, e2.trans h1, e3.trans h2, h3, hS b h4 h5, h5, h6⟩
end
theorem Qn {i id : Nat} : ∀ {l : List Nat}, i ∈ l → id ∈ Ql (s.res i) → id ∈ K4 s l
 | j :: r, h, q => by
  rcases List.mem_cons.1 h with rfl | h
  ·exact List.mem_append_left _ q
  ·exact List.mem_append_right _ (Qn h q)
def Gh.view (s : St) (g : Gh) (ids : List Nat) : Gh := ⟨fun id => if C4 ids id then g.blk id else none, g.hdr, fun b => g.av b ∨ ∃ id, id ∉ ids ∧ g.blk id = some b⟩
theorem Km {i id : Nat} : ∀ {sl : List Nat}, i ∈ sl → id ∈ D2 (s.cell i) → id ∈ Cg s sl
 | j :: r, h, q => by
  rcases List.mem_cons.1 h with rfl | h
  ·exact List.mem_append_left _ q
  ·exact List.mem_append_right _ (Km h q)
theorem N9 {i id : Nat} : ∀ {l : List Nat}, i ∈ l → id ∈ If (s.res i) → id ∈ Cw s l
 | j :: r, h, q => by
  rcases List.mem_cons.1 h with rfl | h
  ·exact List.mem_append_left _ q
  ·exact List.mem_append_right _ (N9 h q)
theorem a7 {sl ids : List Nat} (b : Nat) (hb : Bh s g b) (hres : ∀ id, C9 s g w id (s.res id)) : Bh (s.view sl ids) (g.view s ids) b := by
 refine ⟨?_, fun id hl hk => ?_⟩
 ·rintro (q | ⟨id, q1, q2⟩)
  ·exact hb.1 q
  ·exact hb.2 id (Ja hres q2) q2
 ·simp only [Gh.view] at hk
  split at hk
  ·rename_i hid
   exact hb.2 id (Ja hres hk) hk
  ·cases hk
theorem a8 (h : Au n B Iq s g a w) {sl ids : List Nat} (hc : ∀ i ∈ sl, ∀ id ∈ D2 (s.cell i), id ∈ ids) (hr : ∀ i ∈ ids, ∀ id ∈ If (s.res i), id ∈ ids) (hw : ∀ i ∈ ids, ∀ id ∈ Ql (s.res i), id ∈ ids) :
  Au n w.heap.size (ids.filterMap g.blk) (s.view sl ids) (g.view s ids) a w := by
 have hS : ∀ b, Bh s g b → b < w.heap.size → Bh (s.view sl ids) (g.view s ids) b := fun b hb _ => a7 b hb h.res
 have hm : ∀ id ∈ ids, (s.view sl ids).res id = s.res id ∧ (g.view s ids).blk id = g.blk id ∧ (g.view s ids).hdr id = g.hdr id := by
  intro id hid
  have := A1.2 hid
  refine ⟨?_, ?_, rfl⟩
  ·simp [St.view, this]
  ·simp [Gh.view, this]
 refine ⟨h.size, h.defers, Nat.le_refl _, fun i => ?_, fun id => ?_, fun id id' b q1 q2 => ?_, fun id b q => ?_, fun b q => ?_⟩
 ·show G8 _ _ _ (if C4 sl i then s.cell i else .dead) _
  split
  ·rename_i hi
   exact G8.part hS hm (hc i (A1.1 hi)) (h.cell i)
  ·trivial
 ·by_cases hid : id ∈ ids
  ·rw [(hm id hid).1]
   exact C9.part hS hm hid (hr id hid) (hw id hid) (h.res id)
  ·have hf : C4 ids id = false := by
    cases hq : C4 ids id
    ·rfl
    ·exact absurd (A1.1 hq) hid
   have : (s.view sl ids).res id = .unborn := by simp [St.view, hf]
   rw [this]
   show (g.view s ids).blk id = none
   simp [Gh.view, hf]
 ·simp only [Gh.view] at q1 q2
  split at q1
  ·split at q2
   ·exact h.inj id id' b q1 q2
   ·cases q2
  ·cases q1
 ·simp only [Gh.view] at q
  split at q
  ·rename_i hid
   have hid := A1.1 hid
   refine ⟨(h.lt id b q).1, .inl (List.mem_filterMap.2 ⟨id, hid, q⟩), ?_⟩
   rintro (q2 | ⟨j, q2, q3⟩)
   ·exact (h.lt id b q).2.2 q2
   ·exact q2 (by rw [h.inj j id b q3 q]; exact hid)
  ·cases q
 ·rcases q with q | ⟨id, q1, q2⟩
  ·have := h.avB b q
   have := h.base
   omega
  ·exact (h.lt id b q2).1
theorem Vg {l m : List Nat} (h : L8 (Cw s l) m = true) : ∀ i ∈ l, ∀ id ∈ If (s.res i), id ∈ m :=
 fun i hi id hid => Nj.1 h id (N9 hi hid)
theorem Oa {sl : List Nat} : ∀ i ∈ sl, ∀ id ∈ D2 (s.cell i), id ∈ L7 s sl :=
 fun i hi id hid => List.mem_append_left _ (List.mem_append_left _ (Km hi hid))
theorem K5 {nid : Nat} (h : Ey s nid Qm = true) : ∀ id ∈ Dy nid, s.res id = .unborn := by
 intro id hid
 have : nid ≤ id ∧ id < nid + 4 := by
  simp only [Dy, List.mem_cons, List.not_mem_nil, or_false] at hid
  omega
 exact P8 h id this.1 this.2
theorem Aac (h : Au n B Iq s g a w) {sl ids : List Nat} {nid : Nat} {v' : St} {gv' : Gh} {w' : World} {av : AV} (hfr : ∀ id ∈ Dy nid, s.res id = .unborn)
  (hgo : Go w.heap.size (ids.filterMap g.blk) (s.view sl ids) (g.view s ids) w v' gv' w') (hR : Au n w.heap.size (ids.filterMap g.blk) v' gv' a w')
  (hav : ∀ id ∈ D2 av, id ∈ ids ++ Dy nid) (hres : ∀ i ∈ ids ++ Dy nid, ∀ id ∈ If (v'.res i), id ∈ ids ++ Dy nid) (hwk : ∀ i ∈ ids ++ Dy nid, ∀ id ∈ Ql (v'.res i), id ∈ ids ++ Dy nid) :
  ∃ g', Go B Iq s g w (s.lay v' (ids ++ Dy nid)) g' w' ∧ Au n B Iq (s.lay v' (ids ++ Dy nid)) g' a w' ∧ ∀ u, G8 v' gv' w' av u → G8 (s.lay v' (ids ++ Dy nid)) g' w' av u := by
 generalize hm : ids ++ Dy nid = m at hav hres hwk ⊢
 have hidm : ∀ id ∈ ids, id ∈ m := fun id q => by rw [← hm]; exact List.mem_append_left _ q
 have hmem : ∀ id ∈ m, id ∈ ids ∨ id ∈ Dy nid := fun id q => by rw [← hm] at q; exact List.mem_append.1 q
 have hin : ∀ id, C4 m id = true ↔ id ∈ m := fun id => A1
 have hout : ∀ {id}, id ∉ m → C4 m id = false := fun {id} q => by
  cases hq : C4 m id
  ·rfl
  ·exact absurd ((hin id).1 hq) q
 refine ⟨⟨fun id => if C4 m id then gv'.blk id else g.blk id, fun id => if C4 m id then gv'.hdr id else g.hdr id, g.av⟩, ?_⟩
 generalize hg' : (⟨fun id => if C4 m id then gv'.blk id else g.blk id, fun id => if C4 m id then gv'.hdr id else g.hdr id, g.av⟩ : Gh) = g'
 generalize hs' : s.lay v' m = s'
 have e1 : ∀ id ∈ m, s'.res id = v'.res id ∧ g'.blk id = gv'.blk id ∧ g'.hdr id = gv'.hdr id := by
  intro id hid
  have := (hin id).2 hid
  subst hs' hg'
  simp [St.lay, this]
 have e2 : ∀ id, id ∉ m → s'.res id = s.res id ∧ g'.blk id = g.blk id ∧ g'.hdr id = g.hdr id := by
  intro id hid
  have := hout hid
  subst hs' hg'
  simp [St.lay, this]
 have ecell : s'.cell = s.cell := by subst hs'; rfl
 have eav : g'.av = g.av := by subst hg'; rfl
 have eavv : gv'.av = (g.view s ids).av := hgo.av
 have liveBlk : ∀ id b, g.blk id = some b → (s.res id).live = true := fun id b q => Ja h.res q
 have hS2 : ∀ b, Bh v' gv' b → b < w'.heap.size → Bh s' g' b := by
  rintro b ⟨q1, q2⟩ _
  rw [eavv] at q1
  refine ⟨by rw [eav]; exact fun q => q1 (.inl q), fun id hl hk => ?_⟩
  by_cases hid : id ∈ m
  ·obtain ⟨a1, a2, a3⟩ := e1 id hid
   rw [a1] at hl
   rw [a2] at hk
   exact q2 id hl hk
  ·obtain ⟨a1, a2, a3⟩ := e2 id hid
   rw [a2] at hk
   exact q1 (.inr ⟨id, fun q => hid (hidm id q), hk⟩)
 have hS : ∀ b, Bh s g b → b < w.heap.size → Bh s' g' b ∧ w'.heap[b]? = w.heap[b]? := by
  intro b hb hlt
  obtain ⟨k1, k2⟩ := hgo.S b (a7 b hb h.res) hlt
  exact ⟨hS2 b k1 (Nat.lt_of_lt_of_le hlt hgo.kp.size), k2⟩
 have hI : ∀ id, Ai s g s' g' id := by
  intro id
  by_cases hid : id ∈ m
  ·obtain ⟨a1, a2, a3⟩ := e1 id hid
   rcases hmem id hid with q | q
   ·have r := hgo.ref id
    unfold Ai at r ⊢
    have hq := A1.2 q
    have v1 : (s.view sl ids).res id = s.res id := by simp [St.view, hq]
    have v2 : (g.view s ids).blk id = g.blk id := by simp [Gh.view, hq]
    rw [v1, v2] at r
    rw [a1, a2, a3]
    exact r
   ·unfold Ai
    rw [hfr id q]
    exact .inr trivial
  ·obtain ⟨a1, a2, a3⟩ := e2 id hid
   exact Ai.same a1 a2 a3
 have hKp : Kp B Iq w w' := ⟨hgo.kp.os, hgo.kp.tape, hgo.kp.output, hgo.kp.size, fun k hk hkI => by
  refine hgo.kp.block k (Nat.lt_of_lt_of_le hk h.base) (fun q => ?_)
  obtain ⟨id, q1, q2⟩ := List.mem_filterMap.1 q
  rcases (h.lt id k q2).2.1 with q3 | q3
  ·exact hkI q3
  ·omega⟩
 refine ⟨⟨hKp, hS, hI, eav⟩, ?_, fun u hu => G8.part hS2 e1 hav hu⟩
 refine h.step h.size h.defers hgo.kp.size hS hI (fun i => .inl ⟨by rw [ecell], rfl⟩) (fun j => ?_) (fun i j b hi hj => ?_) (fun i b hi => ?_) eav
 ·by_cases hj : j ∈ m
  ·right
   rw [(e1 j hj).1]
   exact C9.part hS2 e1 hj (hres j hj) (hwk j hj) (hR.res j)
  ·left
   obtain ⟨a1, a2, a3⟩ := e2 j hj
   refine ⟨a1, a2, a3, fun b hb => hgo.kp.block b (h.lt j b hb).1 (fun q => ?_)⟩
   obtain ⟨id, q1, q2⟩ := List.mem_filterMap.1 q
   exact hj (by rw [h.inj j id b hb q2]; exact hidm id q1)
 ·have far : ∀ i j b, i ∈ m → g'.blk i = some b → j ∉ m → g'.blk j = some b → False := by
   intro i j b him hi hjm hj
   rw [(e1 i him).2.1] at hi
   rw [(e2 j hjm).2.1] at hj
   refine (hR.lt i b hi).2.2 ?_
   rw [eavv]
   exact .inr ⟨j, fun q => hjm (hidm j q), hj⟩
  by_cases him : i ∈ m <;> by_cases hjm : j ∈ m
  ·rw [(e1 i him).2.1] at hi
   rw [(e1 j hjm).2.1] at hj
   exact hR.inj i j b hi hj
  ·exact (far i j b him hi hjm hj).elim
  ·exact (far j i b hjm hj him hi).elim
  ·rw [(e2 i him).2.1] at hi
   rw [(e2 j hjm).2.1] at hj
   exact h.inj i j b hi hj
 ·by_cases him : i ∈ m
  ·rw [(e1 i him).2.1] at hi
   obtain ⟨k1, k2, k3⟩ := hR.lt i b hi
   rw [eavv] at k3
   refine ⟨k1, ?_, fun q => k3 (.inl q)⟩
   rcases k2 with k2 | k2
   ·obtain ⟨id, q1, q2⟩ := List.mem_filterMap.1 k2
    exact (h.lt id b q2).2.1
   ·exact .inr (Nat.le_trans h.base k2)
  ·rw [(e2 i him).2.1] at hi
   obtain ⟨k1, k2⟩ := h.lt i b hi
   exact ⟨Nat.lt_of_lt_of_le k1 hgo.kp.size, k2⟩
theorem So {o : Oper} {m : List Nat} (h : Ft o s m = true) : (∀ i ∈ m, ∀ id ∈ If (s.res i), id ∈ m) ∧ (D3 o = false → ∀ i ∈ m, ∀ id ∈ Ql (s.res i), id ∈ m) := by
 simp only [Ft, Bool.and_eq_true, Bool.or_eq_true] at h
 refine ⟨Vg h.1, fun hl i hi id hid => ?_⟩
 rcases h.2 with q | q
 ·rw [hl] at q; cases q
 ·exact Nj.1 q id (Qn hi hid)
theorem Qo {o : Oper} (hm : R1 o = false) : ∀ i ∈ Bb o, ∀ id ∈ D2 (s.cell i), id ∈ F4 s o := fun i hi id hid => by
 unfold F4
 rw [hm]
 simp only [Bool.false_eq_true, if_false]
 split
 ·exact Oa i hi id hid
 ·exact List.mem_append_left _ (Oa i hi id hid)
section
variable {s t : St}
theorem L9 {x : Operand} (h : ∀ i ∈ Dc [x], s.cell i = t.cell i) : s.op x = t.op x := by
 cases x with
 | tmp i => exact h i (by simp [Dc])
 | const v => rfl
 | global _ => rfl
 | func _ => rfl
theorem Sp {x : Operand} (h : s.op x = t.op x) : s.leaf x = t.leaf x := by unfold St.leaf; rw [h]
theorem Nk {x : Operand} (h : s.op x = t.op x) : s.conc x = t.conc x := by unfold St.conc; rw [h]
theorem Vh {x : Operand} {id : Nat} (h : s.leaf x = some (.row id)) : ∃ i ∈ Dc [x], id ∈ D2 (s.cell i) := by
 cases x with
 | tmp i =>
  refine ⟨i, by simp [Dc], ?_⟩
  unfold St.leaf at h
  simp only [St.op] at h
  split at h
  ·rename_i l hl
   cases h
   rw [hl]
   simp [D2, Qk, Vl.ls, Ie, K3]
  ·cases h
 | const v =>
  unfold St.leaf at h
  simp only [St.op] at h
  split at h
  ·rename_i l hl
   cases h
   unfold O3 at hl
   split at hl
   ·split at hl <;> cases hl
   ·cases hl
   ·cases hl
  ·cases h
 | global _ => cases h
 | func _ => cases h
theorem Ma {x : Operand} (h : s.leaf x = t.leaf x) (hr : ∀ id, s.leaf x = some (.row id) → s.res id = t.res id) : J2 s x = J2 t x := by
 unfold J2
 rw [← h]
 split
 ·rename_i id hl
  rw [hr id hl]
 ·rfl
theorem Xy {x : Operand} (h : s.leaf x = t.leaf x) (hr : ∀ id, s.leaf x = some (.row id) → s.res id = t.res id) : (s.leaf x).bind s.sl = (t.leaf x).bind t.sl := by
 rw [← h]
 cases hl : s.leaf x with
 | none => rfl
 | some l =>
  cases l with
  | row id => simp only [Option.bind_some, St.sl]; rw [hr id hl]
  | _ => rfl
theorem R2 {T : TypeId} {x y : Operand} (h : s.leaf x = t.leaf x) (hr : ∀ id, s.leaf x = some (.row id) → s.res id = t.res id) (hy : s.conc y = t.conc y) : Hi P s T x y = Hi P t T x y := by
 unfold Hi
 rw [← h, ← hy]
 split
 ·split
  ·rename_i id _ _ _ hl _
   rw [hr _ hl]
  ·rfl
 ·rfl
theorem Vi {T : TypeId} {x : Operand} (h : s.leaf x = t.leaf x) (hr : ∀ id, s.leaf x = some (.row id) → s.res id = t.res id) : M8 P s T x = M8 P t T x := by
 unfold M8
 rw [← h]
 split
 ·split
  ·rename_i id hl
   rw [hr _ hl]
  ·rfl
 ·rfl
end
theorem Mb {s t : St} {T : TypeId} {x y : Operand} (h : s.leaf x = t.leaf x) (hr : ∀ id, s.leaf x = some (.row id) → s.res id = t.res id) (hy : s.conc y = t.conc y) : Db P s T x y = Db P t T x y := by
 unfold Db
 rw [Xy h hr, hy]
theorem Wt {s t : St} {T : TypeId} {x : Operand} (h : s.leaf x = t.leaf x) (hr : ∀ id, s.leaf x = some (.row id) → s.res id = t.res id) (hy : s.conc x = t.conc x) : Sc P s T x = Sc P t T x := by
 unfold Sc
 rw [Xy h hr, hy]
theorem Vj {s t : St} {X : Option (List Bool × Lf)} {av : AV} {v' : St} (e : Dw (m5 t X) = some (av, v')) : v' = t ∧ Dw (m5 s X) = some (av, s) := by
 cases X with
 | none => cases e
 | some p =>
  simp only [m5, Dw] at e ⊢
  split at e <;> cases e
  rename_i hq
  exact ⟨rfl, by rw [if_pos hq]⟩
theorem Pf {s t : St} {X : Option Value} {av : AV} {v' : St} (e : Dw (v0 t X) = some (av, v')) : v' = t ∧ Dw (v0 s X) = some (av, s) := by
 cases X with
 | none => cases e
 | some p =>
  simp only [v0, Dw] at e ⊢
  split at e <;> cases e
  rename_i hq
  exact ⟨rfl, by rw [if_pos hq]⟩
theorem Mc {s t : St} : ∀ {l : List Operand}, (∀ y ∈ l, s.conc y = t.conc y) → H0 s l = H0 t l
 | [], _ => rfl
 | y :: r, h => by
  simp only [H0]
  rw [h y (by simp), Mc (fun z hz => h z (by simp [hz]))]
theorem R3 {s t : St} {T : TypeId} {x : Operand} (h : s.leaf x = t.leaf x) (hr : ∀ id, s.leaf x = some (.row id) → s.res id = t.res id) : Hk P s T x = Hk P t T x := by
 unfold Hk
 rw [← h]
 split
 ·rename_i hl
  rw [hr _ hl]
 ·rfl
theorem Wu {sigs : Tb} {nid : Nat} {o : Oper} {t v' : St} {av : AV} (hl : D3 o = true) (hc : ∀ i ∈ Bb o, t.cell i = s.cell i) (hr : R1 o = false → ∀ i ∈ Bb o, ∀ id ∈ D2 (t.cell i), t.res id = s.res id)
  (e : F2 P sigs t nid o = some (av, v')) : v' = t ∧ F2 P sigs s nid o = some (av, s) := by
 obtain ⟨dst, op, type, pos, after, guard⟩ := o
 cases op <;> simp only [D3] at hl <;> first | (cases hl; done) | skip
 case move x =>
  have hx : t.op x = s.op x := L9 (fun i hi => hc i (by simpa [Bb, Op.operands] using hi))
  simp only [Bool.not_eq_true'] at hl
  simp only [F2, D1, L4, Hl, I6, hl, avS, Dw, Fe] at e ⊢
  cases e
  exact ⟨rfl, by rw [hx]; rfl⟩
 case assign x =>
  have hx : t.op x = s.op x := L9 (fun i hi => hc i (by simpa [Bb, Op.operands] using hi))
  simp only [Bool.not_eq_true'] at hl
  simp only [F2, D1, L4, Hl, I6, hl, avS, Dw, Fe] at e ⊢
  cases e
  exact ⟨rfl, by rw [hx]; rfl⟩
 case indexAddr T x y =>
  have hs1 : Dc [x] ⊆ Bb ⟨dst, .indexAddr T x y, type, pos, after, guard⟩ := fun i hi => by
   cases x <;> simp [Dc, Bb, Op.operands] at hi ⊢
   exact .inl hi
  have hs2 : Dc [y] ⊆ Bb ⟨dst, .indexAddr T x y, type, pos, after, guard⟩ := fun i hi => by
   cases x <;> cases y <;> simp [Dc, Bb, Op.operands] at hi ⊢ <;> first | exact hi | exact .inr hi
  have hx := Sp (L9 (s := t) (t := s) (x := x) (fun i hi => hc i (hs1 hi)))
  have hy := Nk (L9 (s := t) (t := s) (x := y) (fun i hi => hc i (hs2 hi)))
  have hrr : ∀ id, t.leaf x = some (.row id) → t.res id = s.res id := fun id hid => by
   obtain ⟨i, h1, h2⟩ := Vh hid
   exact hr rfl i (hs1 h1) id h2
  simp only [F2, D1, L4, Hl] at e ⊢
  rw [Ma hx hrr, R2 hx hrr hy, Mb hx hrr hy] at e
  split at e
  ·rename_i hq
   rw [if_pos hq]
   exact Vj e
  ·rename_i hq
   rw [if_neg hq]
   exact Vj e
 case call c =>
  obtain ⟨callee, args, argTypes⟩ := c
  have hcal : callee = .builtin .len := by
   split at hl
   ·rename_i hq; exact hq
   ·cases hl
  subst hcal
  simp only [F2, D1, L4, Hl] at e ⊢
  split at e
  ·rename_i x T ha ht
   have ha' : args = #[x] := by apply Array.toList_inj.1; simpa using ha
   subst ha'
   have hs1 : Dc [x] ⊆ Bb ⟨dst, .call ⟨.builtin .len, #[x], argTypes⟩, type, pos, after, guard⟩ := fun i hi => by
    cases x <;> simp [Dc, Bb, Op.operands, Call.operands] at hi ⊢
    exact hi
   have hop := L9 (s := t) (t := s) (x := x) (fun i hi => hc i (hs1 hi))
   have hx := Sp hop
   have hrr : ∀ id, t.leaf x = some (.row id) → t.res id = s.res id := fun id hid => by
    obtain ⟨i, h1, h2⟩ := Vh hid
    exact hr rfl i (hs1 h1) id h2
   have hcc : Dp P t ⟨dst, .call ⟨.builtin .len, #[x], argTypes⟩, type, pos, after, guard⟩ = Dp P s ⟨dst, .call ⟨.builtin .len, #[x], argTypes⟩, type, pos, after, guard⟩ := by
    have hcx := Nk hop
    unfold Dp
    have e1 : ∀ y ∈ (Op.call ⟨.builtin .len, #[x], argTypes⟩).operands.toList, t.conc y = s.conc y := fun y hy => by
     simp [Op.operands, Call.operands] at hy
     rw [hy]; exact hcx
    rw [Mc e1]
    split
    ·have : execOp (fun x => (t.conc x).getD undef) ⟨dst, .call ⟨.builtin .len, #[x], argTypes⟩, type, pos, after, guard⟩ = execOp (fun x => (s.conc x).getD undef) ⟨dst, .call ⟨.builtin .len, #[x], argTypes⟩, type, pos, after, guard⟩ :=
      execOp_congr _ (fun cs b q => by cases q) (fun y hy => by show (t.conc y).getD undef = (s.conc y).getD undef; rw [e1 y (Array.mem_toList_iff.2 hy)])
     rw [this]
    ·rfl
   split at e
   ·rename_i hsl
    rw [if_pos hsl]
    rw [Ma hx hrr, Vi hx hrr, Wt hx hrr (Nk hop)] at e
    split at e
    ·rename_i hq
     rw [if_pos hq]
     exact Pf e
    ·rename_i hq
     rw [if_neg hq]
     exact Pf e
   ·rename_i hsl
    rw [if_neg hsl]
    rw [hcc, R3 hx hrr] at e
    split at e
    ·rename_i hq
     rw [if_pos hq]
     exact Pf e
    ·rename_i hq
     rw [if_neg hq]
     exact Pf e
  ·cases e
theorem b4 {sigs : Tb} (hs : A3 P sigs) (h : Au n B Iq s g a w) {nid : Nat} {o : Oper} {av : AV} {v' : St} (e : Kl P sigs s nid o = some (av, v')) :
  Ej P n B Iq s g a w o av (if D3 o then s else s.lay v' (F4 s o ++ Dy nid)) := by
 unfold Kl at e
 dsimp only at e
 split at e
 ·rename_i hfr
  split at e
  ·rename_i hcl
   obtain ⟨p, e1, e⟩ := Option.bind_eq_some_iff.1 e
   split at e
   ·rename_i h1
    split at e <;> cases e
    rename_i h2
    cases hlt : D3 o with
    | true =>
     refine I9 hs h (Wu (t := s.view (Bb o) (F4 s o)) hlt (fun i hi => ?_) (fun hm i hi id hid => ?_) e1).2
     ·simp [St.view, A1.2 hi]
     ·have : (s.view (Bb o) (F4 s o)).cell i = s.cell i := by simp [St.view, A1.2 hi]
      rw [this] at hid
      simp [St.view, A1.2 (Qo hm i hi id hid)]
    | false =>
     have c1 := So hcl
     have c2 := So h2
     have hmv : R1 o = false := by
      cases hq : R1 o with
      | false => rfl
      | true => rw [Z9 hq] at hlt; cases hlt
     rw [hmv, Bool.false_or] at h1
     have hV := a8 h (sl := Bb o) (ids := F4 s o) (Qo hmv) c1.1 (c1.2 hlt)
     intro K Q hK
     refine I9 hs hV e1 K Q fun v gv' w' k1 k2 k3 => ?_
     obtain ⟨g', q1, q2, q3⟩ := Aac h (K5 hfr) k1 k2 (Nj.1 h1) c2.1 (c2.2 hlt)
     exact hK v g' w' q1 q2 (q3 v k3)
   ·cases e
  ·cases e
 ·cases e
end
end Go.Proofs.Ytkfoebbjncngjaa.R

