/- One operation, told of that part of the state that it looks at. No condition. -/
import Derived.Test.YtkfoebbjncngjaaRInl
namespace Go.Proofs.Ytkfoebbjncngjaa.R
open Go Go.RowKit
set_option linter.unusedVariables false
set_option linter.unusedSimpArgs false
def Oa : Lf → List Nat
 | .row id => [id]
 | .ptr id _ => [id]
 | .rp id _ _ => [id]
 | .sp id => [id]
 | _ => []
def Ks : List Lf → List Nat
 | [] => []
 | l :: r => Oa l ++ Ks r
def Ua (v : Vl) : List Nat := Ks v.ls
def S3 : List Vl → List Nat
 | [] => []
 | v :: r => Ua v ++ S3 r
def Fz : AV → List Nat
 | .dead => []
 | .vl v => Ua v
 | .tp vs => S3 vs
 | .fn _ ls => Ks ls
def Ku : Res → List Nat
 | .box _ ls => Ks ls
 | _ => []
def Ub : Res → List Nat
 | .last _ _ _ _ j => [j]
 | _ => []
def Et : List Operand → List Nat
 | [] => []
 | .tmp t :: r => t :: Et r
 | _ :: r => Et r
def Bo (o : Oper) : List Nat := Et o.op.operands.toList
def Eh (l : List Nat) (i : Nat) : Bool := match l with
 | [] => false
 | j :: r => Nat.beq j i || Eh r i
theorem A5 {l : List Nat} {i : Nat} : Eh l i = true ↔ i ∈ l := by
 induction l with
 | nil => simp [Eh]
 | cons j r ih =>
  simp only [Eh, Bool.or_eq_true, ih, List.mem_cons, Nat.beq_eq]
  constructor
  ·rintro (h | h)
   ·exact .inl h.symm
   ·exact .inr h
  ·rintro (h | h)
   ·exact .inl h.symm
   ·exact .inr h
def C9 (s : St) : List Nat → List Nat
 | [] => []
 | i :: r => Fz (s.cell i) ++ C9 s r
def D0 (s : St) : List Nat → List Nat
 | [] => []
 | i :: r => Ku (s.res i) ++ D0 s r
def Po (s : St) (sl : List Nat) : List Nat :=
 let l0 := C9 s sl
 let l1 := l0 ++ D0 s l0
 l1 ++ D0 s l1
def Ob (s : St) : List Nat → List Nat
 | [] => []
 | i :: r => Ub (s.res i) ++ Ob s r
def F0 (o : Oper) : Bool := match o.op with
 | .move x => !Rw x
 | .assign x => !Rw x
 | .indexAddr _ _ _ => true
 | .call c => (match c.callee with
  | .builtin .len => true
  | _ => false)
 | _ => false
def Vz (o : Oper) : Bool := match o.op with
 | .move x => !Rw x
 | .assign x => !Rw x
 | _ => false
theorem Ac0 {o : Oper} (h : Vz o = true) : F0 o = true := by
 unfold Vz at h
 unfold F0
 split at h
 ·rename_i q; rw [q]; exact h
 ·rename_i q; rw [q]; exact h
 ·cases h
def H2 (s : St) (o : Oper) : List Nat := if Vz o then [] else if F0 o then Po s (Bo o) else Po s (Bo o) ++ Ob s (Po s (Bo o))
def Pp (l m : List Nat) : Bool := match l with
 | [] => true
 | i :: r => Eh m i && Pp r m
theorem Qv {l m : List Nat} : Pp l m = true ↔ ∀ i ∈ l, i ∈ m := by
 induction l with
 | nil => simp [Pp]
 | cons j r ih => simp [Pp, A5, ih]
def Sh : Nat := 4
def Fq (nid : Nat) : List Nat := [nid, nid + 1, nid + 2, nid + 3]
def St.view (s : St) (sl ids : List Nat) : St := ⟨fun i => if Eh sl i then s.cell i else .dead, fun id => if Eh ids id then s.res id else .unborn⟩
def St.lay (s v : St) (m : List Nat) : St := ⟨s.cell, fun id => if Eh m id then v.res id else s.res id⟩
def Hp (o : Oper) (s : St) (m : List Nat) : Bool := Pp (D0 s m) m && (F0 o || Pp (Ob s m) m)
def Nl (P : Program) (sigs : Tb) (s : St) (nid : Nat) (o : Oper) : Option (AV × St) :=
 let sl := Bo o
 let ids := H2 s o
 if Gj s nid Sh then (if Hp o s ids then (H0 P sigs (s.view sl ids) nid o).bind fun p =>
  if Vz o || Pp (Fz p.1) (ids ++ Fq nid) then (if Hp o p.2 (ids ++ Fq nid) then some p else none) else none
 else none) else none
section
variable {P : Program} {n B : Nat} {Iq : List Nat} {s : St} {g : Gh} {a : Act} {w : World}
theorem Lz (h : ∀ id, Ep s g w id (s.res id)) {id b : Nat} (hb : g.blk id = some b) : (s.res id).live = true := by
 have r := h id
 cases hr : s.res id with
 | box T ls => rfl
 | row e t xs => rfl
 | unborn => rw [hr] at r; exact absurd (hb.symm.trans r) (by simp)
 | dead => rw [hr] at r; exact absurd (hb.symm.trans r) (by simp)
 | frozen t xs => rw [hr] at r; exact absurd (hb.symm.trans r.2) (by simp)
 | last _ _ _ _ _ => rfl
 | map _ _ => rfl
 | iter _ _ _ _ => rfl
theorem Bm.part {s s' : St} {g g' : Gh} {w : World} {m : List Nat} (hS : ∀ b, Bw s g b → b < w.heap.size → Bw s' g' b) (hm : ∀ id ∈ m, s'.res id = s.res id ∧ g'.blk id = g.blk id ∧ g'.hdr id = g.hdr id) :
  ∀ {l : Lf} {u : Value}, (∀ id ∈ Oa l, id ∈ m) → Bm s g w l u → Bm s' g' w l u
 | .c _, _, _, h => h
 | .sl _ _, _, _, h => Ty.K_keep (fun b hb hl => ⟨hS b hb hl, rfl⟩) h
 | .row id, u, hi, h => by
  obtain ⟨e1, e2, e3⟩ := hm id (hi id (by simp [Oa]))
  simp only [Bm] at h ⊢
  rw [e1, e3]
  exact h
 | .ptr id off, u, hi, h => by
  obtain ⟨e1, e2, e3⟩ := hm id (hi id (by simp [Oa]))
  simp only [Bm] at h ⊢
  rw [e1, e2]
  exact h
 | .ep t xs i off, u, _, ⟨ad, cs, h1, h2, h3, h4, h5⟩ => ⟨ad, cs, h1, hS _ h2 h3, h3, Ty.K_keep (fun b hb hl => ⟨hS b hb hl, rfl⟩) h4, h5⟩
 | .rp id i off, u, hi, h => by
  obtain ⟨e1, e2, e3⟩ := hm id (hi id (by simp [Oa]))
  simp only [Bm] at h ⊢
  rw [e1, e2]
  exact h
 | .sp id, u, hi, h => by
  obtain ⟨e1, e2, e3⟩ := hm id (hi id (by simp [Oa]))
  simp only [Bm] at h ⊢
  rw [e1, e2]
  exact h
section
variable {s' : St} {g' : Gh} {m : List Nat} (hS : ∀ b, Bw s g b → b < w.heap.size → Bw s' g' b) (hm : ∀ id ∈ m, s'.res id = s.res id ∧ g'.blk id = g.blk id ∧ g'.hdr id = g.hdr id)
 include hS hm
theorem Cw.part : ∀ {ls : List Lf} {cs : List Value}, (∀ id ∈ Ks ls, id ∈ m) → Cw s g w ls cs → Cw s' g' w ls cs
 | [], [], _, _ => trivial
 | [], _ :: _, _, h => h.elim
 | _ :: _, [], _, h => h.elim
 | l :: ls, _ :: _, hi, h => ⟨⟨Bm.part hS hm (fun id q => hi id (by simp [Ks, q])) h.1.1, h.1.2⟩, Cw.part (fun id q => hi id (by simp [Ks, q])) h.2⟩
theorem O5.part {v : Vl} {u : Value} (hi : ∀ id ∈ Ua v, id ∈ m) (h : O5 s g w v u) : O5 s' g' w v u := by
 cases v with
 | lf l => exact ⟨Bm.part hS hm (fun id q => hi id (by simp [Ua, Vl.ls, Ks, q])) h.1, h.2⟩
 | ag ls =>
  obtain ⟨cs, e, hL⟩ := h
  exact ⟨cs, e, Cw.part hS hm hi hL⟩
theorem I7.part {v : AV} {u : Value} (hi : ∀ id ∈ Fz v, id ∈ m) (h : I7 s g w v u) : I7 s' g' w v u := by
 cases v with
 | dead => trivial
 | vl v => exact O5.part hS hm hi h
 | tp vs =>
  obtain ⟨us, h1, h2, h3⟩ := h
  refine ⟨us, h1, h2, fun j l hl => ?_⟩
  obtain ⟨v, e1, e2⟩ := h3 j l hl
  refine ⟨v, e1, O5.part hS hm (fun id q => hi id ?_) e2⟩
  have hmem := List.mem_of_getElem? hl
  clear h1 h2 h3 hl e1 e2 hi
  induction vs with
  | nil => cases hmem
  | cons x r ih =>
   rcases List.mem_cons.1 hmem with rfl | hmem
   ·simp [Fz, S3, q]
   ·have := ih hmem
    simp only [Fz, S3, List.mem_append] at this ⊢
    exact .inr this
 | fn f ls =>
  obtain ⟨cs, h1, h2⟩ := h
  exact ⟨cs, h1, Cw.part hS hm hi h2⟩
theorem Ep.part {id : Nat} (hid : id ∈ m) {r : Res} (hi : ∀ j ∈ Ku r, j ∈ m) (hwk : ∀ j ∈ Ub r, j ∈ m) (h : Ep s g w id r) : Ep s' g' w id r := by
 obtain ⟨e1, e2, e3⟩ := hm id hid
 cases r with
 | unborn => exact e2.trans h
 | dead => exact e2.trans h
 | box T ls =>
  obtain ⟨b, cs, h1, h2, h3⟩ := h
  exact ⟨b, cs, e2.trans h1, h2, Cw.part hS hm hi h3⟩
 | row e t xs =>
  obtain ⟨cs, h1, h2, h3⟩ := h
  exact ⟨cs, by rw [e3]; exact h1, h2.imp hS, by rw [e2, e3]; exact h3⟩
 | frozen t xs =>
  obtain ⟨h1, h2⟩ := h
  exact ⟨by rw [e3]; exact Ty.K_keep (fun b hb hl => ⟨hS b hb hl, rfl⟩) h1, e2.trans h2⟩
 | last e t xs c j =>
  obtain ⟨cs, h1, h2, h3, h4⟩ := h
  obtain ⟨q1, q2, q3⟩ := hm j (hwk j (by simp [Ub]))
  refine ⟨cs, by rw [e3]; exact h1, h2.imp hS, by rw [e2, e3]; exact h3, fun u hc hu => ?_⟩
  rw [q1, q3]
  exact h4 u hc hu
 | map t xs =>
  obtain ⟨b, es, clock, h1, h2, h3⟩ := h
  exact ⟨b, es, clock, e2.trans h1, e3.trans h2, h3⟩
 | iter t xs seen cur =>
  obtain ⟨b, r, es, clock, since, c0, sn, h1, h2, h3, h4, h5, h6⟩ := h
  exact ⟨b, r, es, clock, since, c0, sn, e2.trans h1, e3.trans h2, h3, hS b h4 h5, h5, h6⟩
end
theorem Uc {i id : Nat} : ∀ {l : List Nat}, i ∈ l → id ∈ Ub (s.res i) → id ∈ Ob s l
 | j :: r, h, q => by
  rcases List.mem_cons.1 h with rfl | h
  ·exact List.mem_append_left _ q
  ·exact List.mem_append_right _ (Uc h q)
def Gh.view (s : St) (g : Gh) (ids : List Nat) : Gh := ⟨fun id => if Eh ids id then g.blk id else none, g.hdr, fun b => g.av b ∨ ∃ id, id ∉ ids ∧ g.blk id = some b⟩
theorem Nm {i id : Nat} : ∀ {sl : List Nat}, i ∈ sl → id ∈ Fz (s.cell i) → id ∈ C9 s sl
 | j :: r, h, q => by
  rcases List.mem_cons.1 h with rfl | h
  ·exact List.mem_append_left _ q
  ·exact List.mem_append_right _ (Nm h q)
theorem Rz {i id : Nat} : ∀ {l : List Nat}, i ∈ l → id ∈ Ku (s.res i) → id ∈ D0 s l
 | j :: r, h, q => by
  rcases List.mem_cons.1 h with rfl | h
  ·exact List.mem_append_left _ q
  ·exact List.mem_append_right _ (Rz h q)
theorem Ac1 {sl ids : List Nat} (b : Nat) (hb : Bw s g b) (hres : ∀ id, Ep s g w id (s.res id)) : Bw (s.view sl ids) (g.view s ids) b := by
 refine ⟨?_, fun id hl hk => ?_⟩
 ·rintro (q | ⟨id, q1, q2⟩)
  ·exact hb.1 q
  ·exact hb.2 id (Lz hres q2) q2
 ·simp only [Gh.view] at hk
  split at hk
  ·rename_i hid
   exact hb.2 id (Lz hres hk) hk
  ·cases hk
theorem Ac2 (h : Ax n B Iq s g a w) {sl ids : List Nat} (hc : ∀ i ∈ sl, ∀ id ∈ Fz (s.cell i), id ∈ ids) (hr : ∀ i ∈ ids, ∀ id ∈ Ku (s.res i), id ∈ ids) (hw : ∀ i ∈ ids, ∀ id ∈ Ub (s.res i), id ∈ ids) :
  Ax n w.heap.size (ids.filterMap g.blk) (s.view sl ids) (g.view s ids) a w := by
 have hS : ∀ b, Bw s g b → b < w.heap.size → Bw (s.view sl ids) (g.view s ids) b := fun b hb _ => Ac1 b hb h.res
 have hm : ∀ id ∈ ids, (s.view sl ids).res id = s.res id ∧ (g.view s ids).blk id = g.blk id ∧ (g.view s ids).hdr id = g.hdr id := by
  intro id hid
  have := A5.2 hid
  refine ⟨?_, ?_, rfl⟩
  ·simp [St.view, this]
  ·simp [Gh.view, this]
 refine ⟨h.size, h.defers, Nat.le_refl _, fun i => ?_, fun id => ?_, fun id id' b q1 q2 => ?_, fun id b q => ?_, fun b q => ?_⟩
 ·show I7 _ _ _ (if Eh sl i then s.cell i else .dead) _
  split
  ·rename_i hi
   exact I7.part hS hm (hc i (A5.1 hi)) (h.cell i)
  ·trivial
 ·by_cases hid : id ∈ ids
  ·rw [(hm id hid).1]
   exact Ep.part hS hm hid (hr id hid) (hw id hid) (h.res id)
  ·have hf : Eh ids id = false := by
    cases hq : Eh ids id
    ·rfl
    ·exact absurd (A5.1 hq) hid
   have : (s.view sl ids).res id = .unborn := by simp [St.view, hf]
   rw [this]
   show (g.view s ids).blk id = none
   simp [Gh.view, hf]
 ·simp only [Gh.view] at q1 q2
  split at q1
  ·split at q2
   ·exact h.inj id id' b q1 q2
   ·cases q2
  ·cases q1
 ·simp only [Gh.view] at q
  split at q
  ·rename_i hid
   have hid := A5.1 hid
   refine ⟨(h.lt id b q).1, .inl (List.mem_filterMap.2 ⟨id, hid, q⟩), ?_⟩
   rintro (q2 | ⟨j, q2, q3⟩)
   ·exact (h.lt id b q).2.2 q2
   ·exact q2 (by rw [h.inj j id b q3 q]; exact hid)
  ·cases q
 ·rcases q with q | ⟨id, q1, q2⟩
  ·have := h.avB b q
   have := h.base
   omega
  ·exact (h.lt id b q2).1
theorem Z9 {l m : List Nat} (h : Pp (D0 s l) m = true) : ∀ i ∈ l, ∀ id ∈ Ku (s.res i), id ∈ m :=
 fun i hi id hid => Qv.1 h id (Rz hi hid)
theorem R0 {sl : List Nat} : ∀ i ∈ sl, ∀ id ∈ Fz (s.cell i), id ∈ Po s sl :=
 fun i hi id hid => List.mem_append_left _ (List.mem_append_left _ (Nm hi hid))
theorem Oc {nid : Nat} (h : Gj s nid Sh = true) : ∀ id ∈ Fq nid, s.res id = .unborn := by
 intro id hid
 have : nid ≤ id ∧ id < nid + 4 := by
  simp only [Fq, List.mem_cons, List.not_mem_nil, or_false] at hid
  omega
 exact Tx h id this.1 this.2
theorem Agh (h : Ax n B Iq s g a w) {sl ids : List Nat} {nid : Nat} {v' : St} {gv' : Gh} {w' : World} {av : AV} (hfr : ∀ id ∈ Fq nid, s.res id = .unborn)
  (hgo : Go w.heap.size (ids.filterMap g.blk) (s.view sl ids) (g.view s ids) w v' gv' w') (hR : Ax n w.heap.size (ids.filterMap g.blk) v' gv' a w')
  (hav : ∀ id ∈ Fz av, id ∈ ids ++ Fq nid) (hres : ∀ i ∈ ids ++ Fq nid, ∀ id ∈ Ku (v'.res i), id ∈ ids ++ Fq nid) (hwk : ∀ i ∈ ids ++ Fq nid, ∀ id ∈ Ub (v'.res i), id ∈ ids ++ Fq nid) :
  ∃ g', Go B Iq s g w (s.lay v' (ids ++ Fq nid)) g' w' ∧ Ax n B Iq (s.lay v' (ids ++ Fq nid)) g' a w' ∧ ∀ u, I7 v' gv' w' av u → I7 (s.lay v' (ids ++ Fq nid)) g' w' av u := by
 generalize hm : ids ++ Fq nid = m at hav hres hwk ⊢
 have hidm : ∀ id ∈ ids, id ∈ m := fun id q => by rw [← hm]; exact List.mem_append_left _ q
 have hmem : ∀ id ∈ m, id ∈ ids ∨ id ∈ Fq nid := fun id q => by rw [← hm] at q; exact List.mem_append.1 q
 have hin : ∀ id, Eh m id = true ↔ id ∈ m := fun id => A5
 have hout : ∀ {id}, id ∉ m → Eh m id = false := fun {id} q => by
  cases hq : Eh m id
  ·rfl
  ·exact absurd ((hin id).1 hq) q
 refine ⟨⟨fun id => if Eh m id then gv'.blk id else g.blk id, fun id => if Eh m id then gv'.hdr id else g.hdr id, g.av⟩, ?_⟩
 generalize hg' : (⟨fun id => if Eh m id then gv'.blk id else g.blk id, fun id => if Eh m id then gv'.hdr id else g.hdr id, g.av⟩ : Gh) = g'
 generalize hs' : s.lay v' m = s'
 have e1 : ∀ id ∈ m, s'.res id = v'.res id ∧ g'.blk id = gv'.blk id ∧ g'.hdr id = gv'.hdr id := by
  intro id hid
  have := (hin id).2 hid
  subst hs' hg'
  simp [St.lay, this]
 have e2 : ∀ id, id ∉ m → s'.res id = s.res id ∧ g'.blk id = g.blk id ∧ g'.hdr id = g.hdr id := by
  intro id hid
  have := hout hid
  subst hs' hg'
  simp [St.lay, this]
 have ecell : s'.cell = s.cell := by subst hs'; rfl
 have eav : g'.av = g.av := by subst hg'; rfl
 have eavv : gv'.av = (g.view s ids).av := hgo.av
 have liveBlk : ∀ id b, g.blk id = some b → (s.res id).live = true := fun id b q => Lz h.res q
 have hS2 : ∀ b, Bw v' gv' b → b < w'.heap.size → Bw s' g' b := by
  rintro b ⟨q1, q2⟩ _
  rw [eavv] at q1
  refine ⟨by rw [eav]; exact fun q => q1 (.inl q), fun id hl hk => ?_⟩
  by_cases hid : id ∈ m
  ·obtain ⟨a1, a2, a3⟩ := e1 id hid
   rw [a1] at hl
   rw [a2] at hk
   exact q2 id hl hk
  ·obtain ⟨a1, a2, a3⟩ := e2 id hid
   rw [a2] at hk
   exact q1 (.inr ⟨id, fun q => hid (hidm id q), hk⟩)
 have hS : ∀ b, Bw s g b → b < w.heap.size → Bw s' g' b ∧ w'.heap[b]? = w.heap[b]? := by
  intro b hb hlt
  obtain ⟨k1, k2⟩ := hgo.S b (Ac1 b hb h.res) hlt
  exact ⟨hS2 b k1 (Nat.lt_of_lt_of_le hlt hgo.kp.size), k2⟩
 have hI : ∀ id, Ae s g s' g' id := by
  intro id
  by_cases hid : id ∈ m
  ·obtain ⟨a1, a2, a3⟩ := e1 id hid
   rcases hmem id hid with q | q
   ·have r := hgo.ref id
    unfold Ae at r ⊢
    have hq := A5.2 q
    have v1 : (s.view sl ids).res id = s.res id := by simp [St.view, hq]
    have v2 : (g.view s ids).blk id = g.blk id := by simp [Gh.view, hq]
    rw [v1, v2] at r
    rw [a1, a2, a3]
    exact r
   ·unfold Ae
    rw [hfr id q]
    exact .inr trivial
  ·obtain ⟨a1, a2, a3⟩ := e2 id hid
   exact Ae.same a1 a2 a3
 have hKp : Kp B Iq w w' := ⟨hgo.kp.os, hgo.kp.tape, hgo.kp.output, hgo.kp.size, fun k hk hkI => by
  refine hgo.kp.block k (Nat.lt_of_lt_of_le hk h.base) (fun q => ?_)
  obtain ⟨id, q1, q2⟩ := List.mem_filterMap.1 q
  rcases (h.lt id k q2).2.1 with q3 | q3
  ·exact hkI q3
  ·omega⟩
 refine ⟨⟨hKp, hS, hI, eav⟩, ?_, fun u hu => I7.part hS2 e1 hav hu⟩
 refine h.step h.size h.defers hgo.kp.size hS hI (fun i => .inl ⟨by rw [ecell], rfl⟩) (fun j => ?_) (fun i j b hi hj => ?_) (fun i b hi => ?_) eav
 ·by_cases hj : j ∈ m
  ·right
   rw [(e1 j hj).1]
   exact Ep.part hS2 e1 hj (hres j hj) (hwk j hj) (hR.res j)
  ·left
   obtain ⟨a1, a2, a3⟩ := e2 j hj
   refine ⟨a1, a2, a3, fun b hb => hgo.kp.block b (h.lt j b hb).1 (fun q => ?_)⟩
   obtain ⟨id, q1, q2⟩ := List.mem_filterMap.1 q
   exact hj (by rw [h.inj j id b hb q2]; exact hidm id q1)
 ·have far : ∀ i j b, i ∈ m → g'.blk i = some b → j ∉ m → g'.blk j = some b → False := by
   intro i j b him hi hjm hj
   rw [(e1 i him).2.1] at hi
   rw [(e2 j hjm).2.1] at hj
   refine (hR.lt i b hi).2.2 ?_
   rw [eavv]
   exact .inr ⟨j, fun q => hjm (hidm j q), hj⟩
  by_cases him : i ∈ m <;> by_cases hjm : j ∈ m
  ·rw [(e1 i him).2.1] at hi
   rw [(e1 j hjm).2.1] at hj
   exact hR.inj i j b hi hj
  ·exact (far i j b him hi hjm hj).elim
  ·exact (far j i b hjm hj him hi).elim
  ·rw [(e2 i him).2.1] at hi
   rw [(e2 j hjm).2.1] at hj
   exact h.inj i j b hi hj
 ·by_cases him : i ∈ m
  ·rw [(e1 i him).2.1] at hi
   obtain ⟨k1, k2, k3⟩ := hR.lt i b hi
   rw [eavv] at k3
   refine ⟨k1, ?_, fun q => k3 (.inl q)⟩
   rcases k2 with k2 | k2
   ·obtain ⟨id, q1, q2⟩ := List.mem_filterMap.1 k2
    exact (h.lt id b q2).2.1
   ·exact .inr (Nat.le_trans h.base k2)
  ·rw [(e2 i him).2.1] at hi
   obtain ⟨k1, k2⟩ := h.lt i b hi
   exact ⟨Nat.lt_of_lt_of_le k1 hgo.kp.size, k2⟩
theorem Wv {o : Oper} {m : List Nat} (h : Hp o s m = true) : (∀ i ∈ m, ∀ id ∈ Ku (s.res i), id ∈ m) ∧ (F0 o = false → ∀ i ∈ m, ∀ id ∈ Ub (s.res i), id ∈ m) := by
 simp only [Hp, Bool.and_eq_true, Bool.or_eq_true] at h
 refine ⟨Z9 h.1, fun hl i hi id hid => ?_⟩
 rcases h.2 with q | q
 ·rw [hl] at q; cases q
 ·exact Qv.1 q id (Uc hi hid)
theorem Ud {o : Oper} (hm : Vz o = false) : ∀ i ∈ Bo o, ∀ id ∈ Fz (s.cell i), id ∈ H2 s o := fun i hi id hid => by
 unfold H2
 rw [hm]
 simp only [Bool.false_eq_true, if_false]
 split
 ·exact R0 i hi id hid
 ·exact List.mem_append_left _ (R0 i hi id hid)
section
variable {s t : St}
theorem Pq {x : Operand} (h : ∀ i ∈ Et [x], s.cell i = t.cell i) : s.op x = t.op x := by
 cases x with
 | tmp i => exact h i (by simp [Et])
 | const v => rfl
 | global _ => rfl
 | func _ => rfl
theorem Ww {x : Operand} (h : s.op x = t.op x) : s.leaf x = t.leaf x := by unfold St.leaf; rw [h]
theorem Qw {x : Operand} (h : s.op x = t.op x) : s.conc x = t.conc x := by unfold St.conc; rw [h]
theorem a7 {x : Operand} {id : Nat} (h : s.leaf x = some (.row id)) : ∃ i ∈ Et [x], id ∈ Fz (s.cell i) := by
 cases x with
 | tmp i =>
  refine ⟨i, by simp [Et], ?_⟩
  unfold St.leaf at h
  simp only [St.op] at h
  split at h
  ·rename_i l hl
   cases h
   rw [hl]
   simp [Fz, Ua, Vl.ls, Ks, Oa]
  ·cases h
 | const v =>
  unfold St.leaf at h
  simp only [St.op] at h
  split at h
  ·rename_i l hl
   cases h
   unfold Ss at hl
   split at hl
   ·split at hl <;> cases hl
   ·cases hl
   ·cases hl
  ·cases h
 | global _ => cases h
 | func _ => cases h
theorem Ps {x : Operand} (h : s.leaf x = t.leaf x) (hr : ∀ id, s.leaf x = some (.row id) → s.res id = t.res id) : Mz s x = Mz t x := by
 unfold Mz
 rw [← h]
 split
 ·rename_i id hl
  rw [hr id hl]
 ·rfl
theorem Aah {x : Operand} (h : s.leaf x = t.leaf x) (hr : ∀ id, s.leaf x = some (.row id) → s.res id = t.res id) : (s.leaf x).bind s.sl = (t.leaf x).bind t.sl := by
 rw [← h]
 cases hl : s.leaf x with
 | none => rfl
 | some l =>
  cases l with
  | row id => simp only [Option.bind_some, St.sl]; rw [hr id hl]
  | _ => rfl
theorem V0 {T : TypeId} {x y : Operand} (h : s.leaf x = t.leaf x) (hr : ∀ id, s.leaf x = some (.row id) → s.res id = t.res id) (hy : s.conc y = t.conc y) : Jo P s T x y = Jo P t T x y := by
 unfold Jo
 rw [← h, ← hy]
 split
 ·split
  ·rename_i id _ _ _ hl _
   rw [hr _ hl]
  ·rfl
 ·rfl
theorem a8 {T : TypeId} {x : Operand} (h : s.leaf x = t.leaf x) (hr : ∀ id, s.leaf x = some (.row id) → s.res id = t.res id) : Qm P s T x = Qm P t T x := by
 unfold Qm
 rw [← h]
 split
 ·split
  ·rename_i id hl
   rw [hr _ hl]
  ·rfl
 ·rfl
end
theorem Pt {s t : St} {T : TypeId} {x y : Operand} (h : s.leaf x = t.leaf x) (hr : ∀ id, s.leaf x = some (.row id) → s.res id = t.res id) (hy : s.conc y = t.conc y) : Es P s T x y = Es P t T x y := by
 unfold Es
 rw [Aah h hr, hy]
theorem p4 {s t : St} {T : TypeId} {x : Operand} (h : s.leaf x = t.leaf x) (hr : ∀ id, s.leaf x = some (.row id) → s.res id = t.res id) (hy : s.conc x = t.conc x) : Wi P s T x = Wi P t T x := by
 unfold Wi
 rw [Aah h hr, hy]
theorem b4 {s t : St} {X : Option (List Bool × Lf)} {av : AV} {v' : St} (e : Fk (lfC t X) = some (av, v')) : v' = t ∧ Fk (lfC s X) = some (av, s) := by
 cases X with
 | none => cases e
 | some p =>
  simp only [lfC, Fk] at e ⊢
  split at e <;> cases e
  rename_i hq
  exact ⟨rfl, by rw [if_pos hq]⟩
theorem S4 {s t : St} {X : Option Value} {av : AV} {v' : St} (e : Fk (v0 t X) = some (av, v')) : v' = t ∧ Fk (v0 s X) = some (av, s) := by
 cases X with
 | none => cases e
 | some p =>
  simp only [v0, Fk] at e ⊢
  split at e <;> cases e
  rename_i hq
  exact ⟨rfl, by rw [if_pos hq]⟩
theorem Pu {s t : St} : ∀ {l : List Operand}, (∀ y ∈ l, s.conc y = t.conc y) → Kd s l = Kd t l
 | [], _ => rfl
 | y :: r, h => by
  simp only [Kd]
  rw [h y (by simp), Pu (fun z hz => h z (by simp [hz]))]
theorem V1 {s t : St} {T : TypeId} {x : Operand} (h : s.leaf x = t.leaf x) (hr : ∀ id, s.leaf x = some (.row id) → s.res id = t.res id) : Jr P s T x = Jr P t T x := by
 unfold Jr
 rw [← h]
 split
 ·rename_i hl
  rw [hr _ hl]
 ·rfl
theorem p5 {sigs : Tb} {nid : Nat} {o : Oper} {t v' : St} {av : AV} (hl : F0 o = true) (hc : ∀ i ∈ Bo o, t.cell i = s.cell i) (hr : Vz o = false → ∀ i ∈ Bo o, ∀ id ∈ Fz (t.cell i), t.res id = s.res id)
  (e : H0 P sigs t nid o = some (av, v')) : v' = t ∧ H0 P sigs s nid o = some (av, s) := by
 obtain ⟨dst, op, type, pos, after, guard⟩ := o
 cases op <;> simp only [F0] at hl <;> first | (cases hl; done) | skip
 case move x =>
  have hx : t.op x = s.op x := Pq (fun i hi => hc i (by simpa [Bo, Op.operands] using hi))
  simp only [Bool.not_eq_true'] at hl
  simp only [H0, Fw, Pm, Js, Lv, hl, avS, Fk, Ha] at e ⊢
  cases e
  exact ⟨rfl, by rw [hx]; rfl⟩
 case assign x =>
  have hx : t.op x = s.op x := Pq (fun i hi => hc i (by simpa [Bo, Op.operands] using hi))
  simp only [Bool.not_eq_true'] at hl
  simp only [H0, Fw, Pm, Js, Lv, hl, avS, Fk, Ha] at e ⊢
  cases e
  exact ⟨rfl, by rw [hx]; rfl⟩
 case indexAddr T x y =>
  have hs1 : Et [x] ⊆ Bo ⟨dst, .indexAddr T x y, type, pos, after, guard⟩ := fun i hi => by
   cases x <;> simp [Et, Bo, Op.operands] at hi ⊢
   exact .inl hi
  have hs2 : Et [y] ⊆ Bo ⟨dst, .indexAddr T x y, type, pos, after, guard⟩ := fun i hi => by
   cases x <;> cases y <;> simp [Et, Bo, Op.operands] at hi ⊢ <;> first | exact hi | exact .inr hi
  have hx := Ww (Pq (s := t) (t := s) (x := x) (fun i hi => hc i (hs1 hi)))
  have hy := Qw (Pq (s := t) (t := s) (x := y) (fun i hi => hc i (hs2 hi)))
  have hrr : ∀ id, t.leaf x = some (.row id) → t.res id = s.res id := fun id hid => by
   obtain ⟨i, h1, h2⟩ := a7 hid
   exact hr rfl i (hs1 h1) id h2
  simp only [H0, Fw, Pm, Js] at e ⊢
  rw [Ps hx hrr, V0 hx hrr hy, Pt hx hrr hy] at e
  split at e
  ·rename_i hq
   rw [if_pos hq]
   exact b4 e
  ·rename_i hq
   rw [if_neg hq]
   exact b4 e
 case call c =>
  obtain ⟨callee, args, argTypes⟩ := c
  have hcal : callee = .builtin .len := by
   split at hl
   ·rename_i hq; exact hq
   ·cases hl
  subst hcal
  simp only [H0, Fw, Pm, Js] at e ⊢
  split at e
  ·rename_i x T ha ht
   have ha' : args = #[x] := by apply Array.toList_inj.1; simpa using ha
   subst ha'
   have hs1 : Et [x] ⊆ Bo ⟨dst, .call ⟨.builtin .len, #[x], argTypes⟩, type, pos, after, guard⟩ := fun i hi => by
    cases x <;> simp [Et, Bo, Op.operands, Call.operands] at hi ⊢
    exact hi
   have hop := Pq (s := t) (t := s) (x := x) (fun i hi => hc i (hs1 hi))
   have hx := Ww hop
   have hrr : ∀ id, t.leaf x = some (.row id) → t.res id = s.res id := fun id hid => by
    obtain ⟨i, h1, h2⟩ := a7 hid
    exact hr rfl i (hs1 h1) id h2
   have hcc : Fb P t ⟨dst, .call ⟨.builtin .len, #[x], argTypes⟩, type, pos, after, guard⟩ = Fb P s ⟨dst, .call ⟨.builtin .len, #[x], argTypes⟩, type, pos, after, guard⟩ := by
    have hcx := Qw hop
    unfold Fb
    have e1 : ∀ y ∈ (Op.call ⟨.builtin .len, #[x], argTypes⟩).operands.toList, t.conc y = s.conc y := fun y hy => by
     simp [Op.operands, Call.operands] at hy
     rw [hy]; exact hcx
    rw [Pu e1]
    split
    ·have : execOp (fun x => (t.conc x).getD undef) ⟨dst, .call ⟨.builtin .len, #[x], argTypes⟩, type, pos, after, guard⟩ = execOp (fun x => (s.conc x).getD undef) ⟨dst, .call ⟨.builtin .len, #[x], argTypes⟩, type, pos, after, guard⟩ :=
      execOp_congr _ (fun cs b q => by cases q) (fun y hy => by show (t.conc y).getD undef = (s.conc y).getD undef; rw [e1 y (Array.mem_toList_iff.2 hy)])
     rw [this]
    ·rfl
   split at e
   ·rename_i hsl
    rw [if_pos hsl]
    rw [Ps hx hrr, a8 hx hrr, p4 hx hrr (Qw hop)] at e
    split at e
    ·rename_i hq
     rw [if_pos hq]
     exact S4 e
    ·rename_i hq
     rw [if_neg hq]
     exact S4 e
   ·rename_i hsl
    rw [if_neg hsl]
    rw [hcc, V1 hx hrr] at e
    split at e
    ·rename_i hq
     rw [if_pos hq]
     exact S4 e
    ·rename_i hq
     rw [if_neg hq]
     exact S4 e
  ·cases e
theorem Ac3 {sigs : Tb} (hs : Az P sigs) (h : Ax n B Iq s g a w) {nid : Nat} {o : Oper} {av : AV} {v' : St} (e : Nl P sigs s nid o = some (av, v')) :
  Gd P n B Iq s g a w o av (if F0 o then s else s.lay v' (H2 s o ++ Fq nid)) := by
 unfold Nl at e
 dsimp only at e
 split at e
 ·rename_i hfr
  split at e
  ·rename_i hcl
   obtain ⟨p, e1, e⟩ := Option.bind_eq_some_iff.1 e
   split at e
   ·rename_i h1
    split at e <;> cases e
    rename_i h2
    cases hlt : F0 o with
    | true =>
     refine Ly hs h (p5 (t := s.view (Bo o) (H2 s o)) hlt (fun i hi => ?_) (fun hm i hi id hid => ?_) e1).2
     ·simp [St.view, A5.2 hi]
     ·have : (s.view (Bo o) (H2 s o)).cell i = s.cell i := by simp [St.view, A5.2 hi]
      rw [this] at hid
      simp [St.view, A5.2 (Ud hm i hi id hid)]
    | false =>
     have c1 := Wv hcl
     have c2 := Wv h2
     have hmv : Vz o = false := by
      cases hq : Vz o with
      | false => rfl
      | true => rw [Ac0 hq] at hlt; cases hlt
     rw [hmv, Bool.false_or] at h1
     have hV := Ac2 h (sl := Bo o) (ids := H2 s o) (Ud hmv) c1.1 (c1.2 hlt)
     intro K Q hK
     refine Ly hs hV e1 K Q fun v gv' w' k1 k2 k3 => ?_
     obtain ⟨g', q1, q2, q3⟩ := Agh h (Oc hfr) k1 k2 (Qv.1 h1) c2.1 (c2.2 hlt)
     exact hK v g' w' q1 q2 (q3 v k3)
   ·cases e
  ·cases e
 ·cases e
end
end Go.Proofs.Ytkfoebbjncngjaa.R

