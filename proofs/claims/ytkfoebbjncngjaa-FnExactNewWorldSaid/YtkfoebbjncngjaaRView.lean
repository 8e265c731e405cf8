/- One operation, told of that part of the state that it looks at. No condition. -/
import Derived.Test.YtkfoebbjncngjaaRInl
namespace Go.Proofs.Ytkfoebbjncngjaa.R
open Go Go.RowKit
set_option linter.unusedVariables false
set_option linter.unusedSimpArgs false
def L9 : Lf → List Nat
 | .row id => [id]
 | .ptr id _ => [id]
 | .rp id _ _ => [id]
 | .sp id => [id]
 | _ => []
def Je : List Lf → List Nat
 | [] => []
 | l :: r => L9 l ++ Je r
def Sv (v : Vl) : List Nat := Je v.ls
def Rw : List Vl → List Nat
 | [] => []
 | v :: r => Sv v ++ Rw r
def Eu : AV → List Nat
 | .dead => []
 | .vl v => Sv v
 | .tp vs => Rw vs
 | .fn _ ls => Je ls
def Jf : Res → List Nat
 | .box _ ls => Je ls
 | _ => []
def Sw : Res → List Nat
 | .last _ _ _ _ j => [j]
 | _ => []
def D0 : List Operand → List Nat
 | [] => []
 | .tmp t :: r => t :: D0 r
 | _ :: r => D0 r
def Bf (o : Oper) : List Nat := D0 o.op.operands.toList
def Dj (l : List Nat) (i : Nat) : Bool := match l with
 | [] => false
 | j :: r => Nat.beq j i || Dj r i
theorem A0 {l : List Nat} {i : Nat} : Dj l i = true ↔ i ∈ l := by
 induction l with
 | nil => simp [Dj]
 | cons j r ih =>
  simp only [Dj, Bool.or_eq_true, ih, List.mem_cons, Nat.beq_eq]
  constructor
  ·rintro (h | h)
   ·exact .inl h.symm
   ·exact .inr h
  ·rintro (h | h)
   ·exact .inl h.symm
   ·exact .inr h
def Cr (s : St) : List Nat → List Nat
 | [] => []
 | i :: r => Eu (s.cell i) ++ Cr s r
def C5 (s : St) : List Nat → List Nat
 | [] => []
 | i :: r => Jf (s.res i) ++ C5 s r
def Nj (s : St) (sl : List Nat) : List Nat :=
 let l0 := Cr s sl
 let l1 := l0 ++ C5 s l0
 l1 ++ C5 s l1
def Ma (s : St) : List Nat → List Nat
 | [] => []
 | i :: r => Sw (s.res i) ++ Ma s r
def Ev (o : Oper) : Bool := match o.op with
 | .move x => !Qe x
 | .assign x => !Qe x
 | .indexAddr _ _ _ => true
 | .call c => (match c.callee with
  | .builtin .len => true
  | _ => false)
 | _ => false
def Ua (o : Oper) : Bool := match o.op with
 | .move x => !Qe x
 | .assign x => !Qe x
 | _ => false
theorem n7 {o : Oper} (h : Ua o = true) : Ev o = true := by
 unfold Ua at h
 unfold Ev
 split at h
 ·rename_i q; rw [q]; exact h
 ·rename_i q; rw [q]; exact h
 ·cases h
def G0 (s : St) (o : Oper) : List Nat := if Ua o then [] else if Ev o then Nj s (Bf o) else Nj s (Bf o) ++ Ma s (Nj s (Bf o))
def Nk (l m : List Nat) : Bool := match l with
 | [] => true
 | i :: r => Dj m i && Nk r m
theorem Pa {l m : List Nat} : Nk l m = true ↔ ∀ i ∈ l, i ∈ m := by
 induction l with
 | nil => simp [Nk]
 | cons j r ih => simp [Nk, A0, ih]
def Sx : Nat := 4
def Eo (nid : Nat) : List Nat := [nid, nid + 1, nid + 2, nid + 3]
def St.view (s : St) (sl ids : List Nat) : St := ⟨fun i => if Dj sl i then s.cell i else .dead, fun id => if Dj ids id then s.res id else .unborn⟩
def St.lay (s v : St) (m : List Nat) : St := ⟨s.cell, fun id => if Dj m id then v.res id else s.res id⟩
def Gp (o : Oper) (s : St) (m : List Nat) : Bool := Nk (C5 s m) m && (Ev o || Nk (Ma s m) m)
def Lr (P : Program) (sigs : Tb) (s : St) (nid : Nat) (o : Oper) : Option (AV × St) :=
 let sl := Bf o
 let ids := G0 s o
 if Fj s nid Sx then (if Gp o s ids then (Gy P sigs (s.view sl ids) nid o).bind fun p =>
  if Ua o || Nk (Eu p.1) (ids ++ Eo nid) then (if Gp o p.2 (ids ++ Eo nid) then some p else none) else none
 else none) else none
section
variable {P : Program} {n B : Nat} {Iq : List Nat} {s : St} {g : Gh} {a : Act} {w : World}
theorem Ke (h : ∀ id, Dx s g w id (s.res id)) {id b : Nat} (hb : g.blk id = some b) : (s.res id).live = true := by
 have r := h id
 cases hr : s.res id with
 | box T ls => rfl
 | row e t xs => rfl
 | unborn => rw [hr] at r; exact absurd (hb.symm.trans r) (by simp)
 | dead => rw [hr] at r; exact absurd (hb.symm.trans r) (by simp)
 | frozen t xs => rw [hr] at r; exact absurd (hb.symm.trans r.2) (by simp)
 | last _ _ _ _ _ => rfl
 | map _ _ => rfl
 | iter _ _ _ _ => rfl
theorem Ba.part {s s' : St} {g g' : Gh} {w : World} {m : List Nat} (hS : ∀ b, Bl s g b → b < w.heap.size → Bl s' g' b) (hm : ∀ id ∈ m, s'.res id = s.res id ∧ g'.blk id = g.blk id ∧ g'.hdr id = g.hdr id) :
  ∀ {l : Lf} {u : Value}, (∀ id ∈ L9 l, id ∈ m) → Ba s g w l u → Ba s' g' w l u
 | .c _, _, _, h => h
 | .sl _ _, _, _, h => Ty.K_keep (fun b hb hl => ⟨hS b hb hl, rfl⟩) h
 | .row id, u, hi, h => by
  obtain ⟨e1, e2, e3⟩ := hm id (hi id (by simp [L9]))
  simp only [Ba] at h ⊢
  rw [e1, e3]
  exact h
 | .ptr id off, u, hi, h => by
  obtain ⟨e1, e2, e3⟩ := hm id (hi id (by simp [L9]))
  simp only [Ba] at h ⊢
  rw [e1, e2]
  exact h
 | .ep t xs i off, u, _, ⟨ad, cs, h1, h2, h3, h4, h5⟩ => ⟨ad, cs, h1, hS _ h2 h3, h3, Ty.K_keep (fun b hb hl => ⟨hS b hb hl, rfl⟩) h4, h5⟩
 | .rp id i off, u, hi, h => by
  obtain ⟨e1, e2, e3⟩ := hm id (hi id (by simp [L9]))
  simp only [Ba] at h ⊢
  rw [e1, e2]
  exact h
 | .sp id, u, hi, h => by
  obtain ⟨e1, e2, e3⟩ := hm id (hi id (by simp [L9]))
  simp only [Ba] at h ⊢
  rw [e1, e2]
  exact h
section
variable {s' : St} {g' : Gh} {m : List Nat} (hS : ∀ b, Bl s g b → b < w.heap.size → Bl s' g' b) (hm : ∀ id ∈ m, s'.res id = s.res id ∧ g'.blk id = g.blk id ∧ g'.hdr id = g.hdr id)
 include hS hm
theorem Ch.part : ∀ {ls : List Lf} {cs : List Value}, (∀ id ∈ Je ls, id ∈ m) → Ch s g w ls cs → Ch s' g' w ls cs
 | [], [], _, _ => trivial
 | [], _ :: _, _, h => h.elim
 | _ :: _, [], _, h => h.elim
 | l :: ls, _ :: _, hi, h => ⟨⟨Ba.part hS hm (fun id q => hi id (by simp [Je, q])) h.1.1, h.1.2⟩, Ch.part (fun id q => hi id (by simp [Je, q])) h.2⟩
theorem Mz.part {v : Vl} {u : Value} (hi : ∀ id ∈ Sv v, id ∈ m) (h : Mz s g w v u) : Mz s' g' w v u := by
 cases v with
 | lf l => exact ⟨Ba.part hS hm (fun id q => hi id (by simp [Sv, Vl.ls, Je, q])) h.1, h.2⟩
 | ag ls =>
  obtain ⟨cs, e, hL⟩ := h
  exact ⟨cs, e, Ch.part hS hm hi hL⟩
theorem H7.part {v : AV} {u : Value} (hi : ∀ id ∈ Eu v, id ∈ m) (h : H7 s g w v u) : H7 s' g' w v u := by
 cases v with
 | dead => trivial
 | vl v => exact Mz.part hS hm hi h
 | tp vs =>
  obtain ⟨us, h1, h2, h3⟩ := h
  refine ⟨us, h1, h2, fun j l hl => ?_⟩
  obtain ⟨v, e1, e2⟩ := h3 j l hl
  refine ⟨v, e1, Mz.part hS hm (fun id q => hi id ?_) e2⟩
  have hmem := List.mem_of_getElem? hl
  clear h1 h2 h3 hl e1 e2 hi
  induction vs with
  | nil => cases hmem
  | cons x r ih =>
   rcases List.mem_cons.1 hmem with rfl | hmem
   ·simp [Eu, Rw, q]
   ·have := ih hmem
    simp only [Eu, Rw, List.mem_append] at this ⊢
    exact .inr this
 | fn f ls =>
  obtain ⟨cs, h1, h2⟩ := h
  exact ⟨cs, h1, Ch.part hS hm hi h2⟩
theorem Dx.part {id : Nat} (hid : id ∈ m) {r : Res} (hi : ∀ j ∈ Jf r, j ∈ m) (hwk : ∀ j ∈ Sw r, j ∈ m) (h : Dx s g w id r) : Dx s' g' w id r := by
 obtain ⟨e1, e2, e3⟩ := hm id hid
 cases r with
 | unborn => exact e2.trans h
 | dead => exact e2.trans h
 | box T ls =>
  obtain ⟨b, cs, h1, h2, h3⟩ := h
  exact ⟨b, cs, e2.trans h1, h2, Ch.part hS hm hi h3⟩
 | row e t xs =>
  obtain ⟨cs, h1, h2, h3⟩ := h
  exact ⟨cs, by rw [e3]; exact h1, h2.imp hS, by rw [e2, e3]; exact h3⟩
 | frozen t xs =>
  obtain ⟨h1, h2⟩ := h
  exact ⟨by rw [e3]; exact Ty.K_keep (fun b hb hl => ⟨hS b hb hl, rfl⟩) h1, e2.trans h2⟩
 | last e t xs c j =>
  obtain ⟨cs, h1, h2, h3, h4⟩ := h
  obtain ⟨q1, q2, q3⟩ := hm j (hwk j (by simp [Sw]))
  refine ⟨cs, by rw [e3]; exact h1, h2.imp hS, by rw [e2, e3]; exact h3, fun u hc hu => ?_⟩
  rw [q1, q3]
  exact h4 u hc hu
 | map t xs =>
  obtain ⟨b, es, clock, h1, h2, h3⟩ := h
  exact ⟨b, es, clock, e2.trans h1, e3.trans h2, h3⟩
 | iter t xs seen cur =>
  obtain ⟨b, r, es, clock, since, c0, sn, h1, h2, h3, h4, h5, h6⟩ := h
  exact ⟨b, r, es, clock, since, c0, sn, e2.trans h1, e3.trans h2, h3, hS b h4 h5, h5, h6⟩
end
theorem Sy {i id : Nat} : ∀ {l : List Nat}, i ∈ l → id ∈ Sw (s.res i) → id ∈ Ma s l
 | j :: r, h, q => by
  rcases List.mem_cons.1 h with rfl | h
  ·exact List.mem_append_left _ q
  ·exact List.mem_append_right _ (Sy h q)
def Gh.view (s : St) (g : Gh) (ids : List Nat) : Gh := ⟨fun id => if Dj ids id then g.blk id else none, g.hdr, fun b => g.av b ∨ ∃ id, id ∉ ids ∧ g.blk id = some b⟩
theorem Ls {i id : Nat} : ∀ {sl : List Nat}, i ∈ sl → id ∈ Eu (s.cell i) → id ∈ Cr s sl
 | j :: r, h, q => by
  rcases List.mem_cons.1 h with rfl | h
  ·exact List.mem_append_left _ q
  ·exact List.mem_append_right _ (Ls h q)
theorem Qh {i id : Nat} : ∀ {l : List Nat}, i ∈ l → id ∈ Jf (s.res i) → id ∈ C5 s l
 | j :: r, h, q => by
  rcases List.mem_cons.1 h with rfl | h
  ·exact List.mem_append_left _ q
  ·exact List.mem_append_right _ (Qh h q)
theorem n9 {sl ids : List Nat} (b : Nat) (hb : Bl s g b) (hres : ∀ id, Dx s g w id (s.res id)) : Bl (s.view sl ids) (g.view s ids) b := by
 refine ⟨?_, fun id hl hk => ?_⟩
 ·rintro (q | ⟨id, q1, q2⟩)
  ·exact hb.1 q
  ·exact hb.2 id (Ke hres q2) q2
 ·simp only [Gh.view] at hk
  split at hk
  ·rename_i hid
   exact hb.2 id (Ke hres hk) hk
  ·cases hk
theorem o5 (h : Au n B Iq s g a w) {sl ids : List Nat} (hc : ∀ i ∈ sl, ∀ id ∈ Eu (s.cell i), id ∈ ids) (hr : ∀ i ∈ ids, ∀ id ∈ Jf (s.res i), id ∈ ids) (hw : ∀ i ∈ ids, ∀ id ∈ Sw (s.res i), id ∈ ids) :
  Au n w.heap.size (ids.filterMap g.blk) (s.view sl ids) (g.view s ids) a w := by
 have hS : ∀ b, Bl s g b → b < w.heap.size → Bl (s.view sl ids) (g.view s ids) b := fun b hb _ => n9 b hb h.res
 have hm : ∀ id ∈ ids, (s.view sl ids).res id = s.res id ∧ (g.view s ids).blk id = g.blk id ∧ (g.view s ids).hdr id = g.hdr id := by
  intro id hid
  have := A0.2 hid
  refine ⟨?_, ?_, rfl⟩
  ·simp [St.view, this]
  ·simp [Gh.view, this]
 refine ⟨h.size, h.defers, Nat.le_refl _, fun i => ?_, fun id => ?_, fun id id' b q1 q2 => ?_, fun id b q => ?_, fun b q => ?_⟩
 ·show H7 _ _ _ (if Dj sl i then s.cell i else .dead) _
  split
  ·rename_i hi
   exact H7.part hS hm (hc i (A0.1 hi)) (h.cell i)
  ·trivial
 ·by_cases hid : id ∈ ids
  ·rw [(hm id hid).1]
   exact Dx.part hS hm hid (hr id hid) (hw id hid) (h.res id)
  ·have hf : Dj ids id = false := by
    cases hq : Dj ids id
    ·rfl
    ·exact absurd (A0.1 hq) hid
   have : (s.view sl ids).res id = .unborn := by simp [St.view, hf]
   rw [this]
   show (g.view s ids).blk id = none
   simp [Gh.view, hf]
 ·simp only [Gh.view] at q1 q2
  split at q1
  ·split at q2
   ·exact h.inj id id' b q1 q2
   ·cases q2
  ·cases q1
 ·simp only [Gh.view] at q
  split at q
  ·rename_i hid
   have hid := A0.1 hid
   refine ⟨(h.lt id b q).1, .inl (List.mem_filterMap.2 ⟨id, hid, q⟩), ?_⟩
   rintro (q2 | ⟨j, q2, q3⟩)
   ·exact (h.lt id b q).2.2 q2
   ·exact q2 (by rw [h.inj j id b q3 q]; exact hid)
  ·cases q
 ·rcases q with q | ⟨id, q1, q2⟩
  ·have := h.avB b q
   have := h.base
   omega
  ·exact (h.lt id b q2).1
theorem Xh {l m : List Nat} (h : Nk (C5 s l) m = true) : ∀ i ∈ l, ∀ id ∈ Jf (s.res i), id ∈ m :=
 fun i hi id hid => Pa.1 h id (Qh hi hid)
theorem Qi {sl : List Nat} : ∀ i ∈ sl, ∀ id ∈ Eu (s.cell i), id ∈ Nj s sl :=
 fun i hi id hid => List.mem_append_left _ (List.mem_append_left _ (Ls hi hid))
theorem Mb {nid : Nat} (h : Fj s nid Sx = true) : ∀ id ∈ Eo nid, s.res id = .unborn := by
 intro id hid
 have : nid ≤ id ∧ id < nid + 4 := by
  simp only [Eo, List.mem_cons, List.not_mem_nil, or_false] at hid
  omega
 exact Sh h id this.1 this.2
theorem Abv (h : Au n B Iq s g a w) {sl ids : List Nat} {nid : Nat} {v' : St} {gv' : Gh} {w' : World} {av : AV} (hfr : ∀ id ∈ Eo nid, s.res id = .unborn)
  (hgo : Go w.heap.size (ids.filterMap g.blk) (s.view sl ids) (g.view s ids) w v' gv' w') (hR : Au n w.heap.size (ids.filterMap g.blk) v' gv' a w')
  (hav : ∀ id ∈ Eu av, id ∈ ids ++ Eo nid) (hres : ∀ i ∈ ids ++ Eo nid, ∀ id ∈ Jf (v'.res i), id ∈ ids ++ Eo nid) (hwk : ∀ i ∈ ids ++ Eo nid, ∀ id ∈ Sw (v'.res i), id ∈ ids ++ Eo nid) :
  ∃ g', Go B Iq s g w (s.lay v' (ids ++ Eo nid)) g' w' ∧ Au n B Iq (s.lay v' (ids ++ Eo nid)) g' a w' ∧ ∀ u, H7 v' gv' w' av u → H7 (s.lay v' (ids ++ Eo nid)) g' w' av u := by
 generalize hm : ids ++ Eo nid = m at hav hres hwk ⊢
 have hidm : ∀ id ∈ ids, id ∈ m := fun id q => by rw [← hm]; exact List.mem_append_left _ q
 have hmem : ∀ id ∈ m, id ∈ ids ∨ id ∈ Eo nid := fun id q => by rw [← hm] at q; exact List.mem_append.1 q
 have hin : ∀ id, Dj m id = true ↔ id ∈ m := fun id => A0
 have hout : ∀ {id}, id ∉ m → Dj m id = false := fun {id} q => by
  cases hq : Dj m id
  ·rfl
  ·exact absurd ((hin id).1 hq) q
 refine ⟨⟨fun id => if Dj m id then gv'.blk id else g.blk id, fun id => if Dj m id then gv'.hdr id else g.hdr id, g.av⟩, ?_⟩
 generalize hg' : (⟨fun id => if Dj m id then gv'.blk id else g.blk id, fun id => if Dj m id then gv'.hdr id else g.hdr id, g.av⟩ : Gh) = g'
 generalize hs' : s.lay v' m = s'
 have e1 : ∀ id ∈ m, s'.res id = v'.res id ∧ g'.blk id = gv'.blk id ∧ g'.hdr id = gv'.hdr id := by
  intro id hid
  have := (hin id).2 hid
  subst hs' hg'
  simp [St.lay, this]
 have e2 : ∀ id, id ∉ m → s'.res id = s.res id ∧ g'.blk id = g.blk id ∧ g'.hdr id = g.hdr id := by
  intro id hid
  have := hout hid
  subst hs' hg'
  simp [St.lay, this]
 have ecell : s'.cell = s.cell := by subst hs'; rfl
 have eav : g'.av = g.av := by subst hg'; rfl
 have eavv : gv'.av = (g.view s ids).av := hgo.av
 have liveBlk : ∀ id b, g.blk id = some b → (s.res id).live = true := fun id b q => Ke h.res q
 have hS2 : ∀ b, Bl v' gv' b → b < w'.heap.size → Bl s' g' b := by
  rintro b ⟨q1, q2⟩ _
  rw [eavv] at q1
  refine ⟨by rw [eav]; exact fun q => q1 (.inl q), fun id hl hk => ?_⟩
  by_cases hid : id ∈ m
  ·obtain ⟨a1, a2, a3⟩ := e1 id hid
   rw [a1] at hl
   rw [a2] at hk
   exact q2 id hl hk
  ·obtain ⟨a1, a2, a3⟩ := e2 id hid
   rw [a2] at hk
   exact q1 (.inr ⟨id, fun q => hid (hidm id q), hk⟩)
 have hS : ∀ b, Bl s g b → b < w.heap.size → Bl s' g' b ∧ w'.heap[b]? = w.heap[b]? := by
  intro b hb hlt
  obtain ⟨k1, k2⟩ := hgo.S b (n9 b hb h.res) hlt
  exact ⟨hS2 b k1 (Nat.lt_of_lt_of_le hlt hgo.kp.size), k2⟩
 have hI : ∀ id, Ae s g s' g' id := by
  intro id
  by_cases hid : id ∈ m
  ·obtain ⟨a1, a2, a3⟩ := e1 id hid
   rcases hmem id hid with q | q
   ·have r := hgo.ref id
    unfold Ae at r ⊢
    have hq := A0.2 q
    have v1 : (s.view sl ids).res id = s.res id := by simp [St.view, hq]
    have v2 : (g.view s ids).blk id = g.blk id := by simp [Gh.view, hq]
    rw [v1, v2] at r
    rw [a1, a2, a3]
    exact r
   ·unfold Ae
    rw [hfr id q]
    exact .inr trivial
  ·obtain ⟨a1, a2, a3⟩ := e2 id hid
   exact Ae.same a1 a2 a3
 have hKp : Kp B Iq w w' := ⟨hgo.kp.os, hgo.kp.tape, hgo.kp.output, hgo.kp.size, fun k hk hkI => by
  refine hgo.kp.block k (Nat.lt_of_lt_of_le hk h.base) (fun q => ?_)
  obtain ⟨id, q1, q2⟩ := List.mem_filterMap.1 q
  rcases (h.lt id k q2).2.1 with q3 | q3
  ·exact hkI q3
  ·omega⟩
 refine ⟨⟨hKp, hS, hI, eav⟩, ?_, fun u hu => H7.part hS2 e1 hav hu⟩
 refine h.step h.size h.defers hgo.kp.size hS hI (fun i => .inl ⟨by rw [ecell], rfl⟩) (fun j => ?_) (fun i j b hi hj => ?_) (fun i b hi => ?_) eav
 ·by_cases hj : j ∈ m
  ·right
   rw [(e1 j hj).1]
   exact Dx.part hS2 e1 hj (hres j hj) (hwk j hj) (hR.res j)
  ·left
   obtain ⟨a1, a2, a3⟩ := e2 j hj
   refine ⟨a1, a2, a3, fun b hb => hgo.kp.block b (h.lt j b hb).1 (fun q => ?_)⟩
   obtain ⟨id, q1, q2⟩ := List.mem_filterMap.1 q
   exact hj (by rw [h.inj j id b hb q2]; exact hidm id q1)
 ·have far : ∀ i j b, i ∈ m → g'.blk i = some b → j ∉ m → g'.blk j = some b → False := by
   intro i j b him hi hjm hj
   rw [(e1 i him).2.1] at hi
   rw [(e2 j hjm).2.1] at hj
   refine (hR.lt i b hi).2.2 ?_
   rw [eavv]
   exact .inr ⟨j, fun q => hjm (hidm j q), hj⟩
  by_cases him : i ∈ m <;> by_cases hjm : j ∈ m
  ·rw [(e1 i him).2.1] at hi
   rw [(e1 j hjm).2.1] at hj
   exact hR.inj i j b hi hj
  ·exact (far i j b him hi hjm hj).elim
  ·exact (far j i b hjm hj him hi).elim
  ·rw [(e2 i him).2.1] at hi
   rw [(e2 j hjm).2.1] at hj
   exact h.inj i j b hi hj
 ·by_cases him : i ∈ m
  ·rw [(e1 i him).2.1] at hi
   obtain ⟨k1, k2, k3⟩ := hR.lt i b hi
   rw [eavv] at k3
   refine ⟨k1, ?_, fun q => k3 (.inl q)⟩
   rcases k2 with k2 | k2
   ·obtain ⟨id, q1, q2⟩ := List.mem_filterMap.1 k2
    exact (h.lt id b q2).2.1
   ·exact .inr (Nat.le_trans h.base k2)
  ·rw [(e2 i him).2.1] at hi
   obtain ⟨k1, k2⟩ := h.lt i b hi
   exact ⟨Nat.lt_of_lt_of_le k1 hgo.kp.size, k2⟩
theorem Uy {o : Oper} {m : List Nat} (h : Gp o s m = true) : (∀ i ∈ m, ∀ id ∈ Jf (s.res i), id ∈ m) ∧ (Ev o = false → ∀ i ∈ m, ∀ id ∈ Sw (s.res i), id ∈ m) := by
 simp only [Gp, Bool.and_eq_true, Bool.or_eq_true] at h
 refine ⟨Xh h.1, fun hl i hi id hid => ?_⟩
 rcases h.2 with q | q
 ·rw [hl] at q; cases q
 ·exact Pa.1 q id (Sy hi hid)
theorem Sz {o : Oper} (hm : Ua o = false) : ∀ i ∈ Bf o, ∀ id ∈ Eu (s.cell i), id ∈ G0 s o := fun i hi id hid => by
 unfold G0
 rw [hm]
 simp only [Bool.false_eq_true, if_false]
 split
 ·exact Qi i hi id hid
 ·exact List.mem_append_left _ (Qi i hi id hid)
section
variable {s t : St}
theorem Nl {x : Operand} (h : ∀ i ∈ D0 [x], s.cell i = t.cell i) : s.op x = t.op x := by
 cases x with
 | tmp i => exact h i (by simp [D0])
 | const v => rfl
 | global _ => rfl
 | func _ => rfl
theorem Uz {x : Operand} (h : s.op x = t.op x) : s.leaf x = t.leaf x := by unfold St.leaf; rw [h]
theorem Pb {x : Operand} (h : s.op x = t.op x) : s.conc x = t.conc x := by unfold St.conc; rw [h]
theorem Xi {x : Operand} {id : Nat} (h : s.leaf x = some (.row id)) : ∃ i ∈ D0 [x], id ∈ Eu (s.cell i) := by
 cases x with
 | tmp i =>
  refine ⟨i, by simp [D0], ?_⟩
  unfold St.leaf at h
  simp only [St.op] at h
  split at h
  ·rename_i l hl
   cases h
   rw [hl]
   simp [Eu, Sv, Vl.ls, Je, L9]
  ·cases h
 | const v =>
  unfold St.leaf at h
  simp only [St.op] at h
  split at h
  ·rename_i l hl
   cases h
   unfold Rl at hl
   split at hl
   ·split at hl <;> cases hl
   ·cases hl
   ·cases hl
  ·cases h
 | global _ => cases h
 | func _ => cases h
theorem Nm {x : Operand} (h : s.leaf x = t.leaf x) (hr : ∀ id, s.leaf x = some (.row id) → s.res id = t.res id) : K4 s x = K4 t x := by
 unfold K4
 rw [← h]
 split
 ·rename_i id hl
  rw [hr id hl]
 ·rfl
theorem Zu {x : Operand} (h : s.leaf x = t.leaf x) (hr : ∀ id, s.leaf x = some (.row id) → s.res id = t.res id) : (s.leaf x).bind s.sl = (t.leaf x).bind t.sl := by
 rw [← h]
 cases hl : s.leaf x with
 | none => rfl
 | some l =>
  cases l with
  | row id => simp only [Option.bind_some, St.sl]; rw [hr id hl]
  | _ => rfl
theorem Ub {T : TypeId} {x y : Operand} (h : s.leaf x = t.leaf x) (hr : ∀ id, s.leaf x = some (.row id) → s.res id = t.res id) (hy : s.conc y = t.conc y) : Ii P s T x y = Ii P t T x y := by
 unfold Ii
 rw [← h, ← hy]
 split
 ·split
  ·rename_i id _ _ _ hl _
   rw [hr _ hl]
  ·rfl
 ·rfl
theorem Xj {T : TypeId} {x : Operand} (h : s.leaf x = t.leaf x) (hr : ∀ id, s.leaf x = some (.row id) → s.res id = t.res id) : O0 P s T x = O0 P t T x := by
 unfold O0
 rw [← h]
 split
 ·split
  ·rename_i id hl
   rw [hr _ hl]
  ·rfl
 ·rfl
end
theorem Nn {s t : St} {T : TypeId} {x y : Operand} (h : s.leaf x = t.leaf x) (hr : ∀ id, s.leaf x = some (.row id) → s.res id = t.res id) (hy : s.conc y = t.conc y) : Dz P s T x y = Dz P t T x y := by
 unfold Dz
 rw [Zu h hr, hy]
theorem Yt {s t : St} {T : TypeId} {x : Operand} (h : s.leaf x = t.leaf x) (hr : ∀ id, s.leaf x = some (.row id) → s.res id = t.res id) (hy : s.conc x = t.conc x) : Uk P s T x = Uk P t T x := by
 unfold Uk
 rw [Zu h hr, hy]
theorem Xk {s t : St} {X : Option (List Bool × Lf)} {av : AV} {v' : St} (e : Eh (lfC t X) = some (av, v')) : v' = t ∧ Eh (lfC s X) = some (av, s) := by
 cases X with
 | none => cases e
 | some p =>
  simp only [lfC, Eh] at e ⊢
  split at e <;> cases e
  rename_i hq
  exact ⟨rfl, by rw [if_pos hq]⟩
theorem Rx {s t : St} {X : Option Value} {av : AV} {v' : St} (e : Eh (v0 t X) = some (av, v')) : v' = t ∧ Eh (v0 s X) = some (av, s) := by
 cases X with
 | none => cases e
 | some p =>
  simp only [v0, Eh] at e ⊢
  split at e <;> cases e
  rename_i hq
  exact ⟨rfl, by rw [if_pos hq]⟩
theorem Np {s t : St} : ∀ {l : List Operand}, (∀ y ∈ l, s.conc y = t.conc y) → I1 s l = I1 t l
 | [], _ => rfl
 | y :: r, h => by
  simp only [I1]
  rw [h y (by simp), Np (fun z hz => h z (by simp [hz]))]
theorem Uc {s t : St} {T : TypeId} {x : Operand} (h : s.leaf x = t.leaf x) (hr : ∀ id, s.leaf x = some (.row id) → s.res id = t.res id) : Ik P s T x = Ik P t T x := by
 unfold Ik
 rw [← h]
 split
 ·rename_i hl
  rw [hr _ hl]
 ·rfl
theorem Yu {sigs : Tb} {nid : Nat} {o : Oper} {t v' : St} {av : AV} (hl : Ev o = true) (hc : ∀ i ∈ Bf o, t.cell i = s.cell i) (hr : Ua o = false → ∀ i ∈ Bf o, ∀ id ∈ Eu (t.cell i), t.res id = s.res id)
  (e : Gy P sigs t nid o = some (av, v')) : v' = t ∧ Gy P sigs s nid o = some (av, s) := by
 obtain ⟨dst, op, type, pos, after, guard⟩ := o
 cases op <;> simp only [Ev] at hl <;> first | (cases hl; done) | skip
 case move x =>
  have hx : t.op x = s.op x := Nl (fun i hi => hc i (by simpa [Bf, Op.operands] using hi))
  simp only [Bool.not_eq_true'] at hl
  simp only [Gy, Et, Ng, Il, Ka, hl, avS, Eh, F6] at e ⊢
  cases e
  exact ⟨rfl, by rw [hx]; rfl⟩
 case assign x =>
  have hx : t.op x = s.op x := Nl (fun i hi => hc i (by simpa [Bf, Op.operands] using hi))
  simp only [Bool.not_eq_true'] at hl
  simp only [Gy, Et, Ng, Il, Ka, hl, avS, Eh, F6] at e ⊢
  cases e
  exact ⟨rfl, by rw [hx]; rfl⟩
 case indexAddr T x y =>
  have hs1 : D0 [x] ⊆ Bf ⟨dst, .indexAddr T x y, type, pos, after, guard⟩ := fun i hi => by
   cases x <;> simp [D0, Bf, Op.operands] at hi ⊢
   exact .inl hi
  have hs2 : D0 [y] ⊆ Bf ⟨dst, .indexAddr T x y, type, pos, after, guard⟩ := fun i hi => by
   cases x <;> cases y <;> simp [D0, Bf, Op.operands] at hi ⊢ <;> first | exact hi | exact .inr hi
  have hx := Uz (Nl (s := t) (t := s) (x := x) (fun i hi => hc i (hs1 hi)))
  have hy := Pb (Nl (s := t) (t := s) (x := y) (fun i hi => hc i (hs2 hi)))
  have hrr : ∀ id, t.leaf x = some (.row id) → t.res id = s.res id := fun id hid => by
   obtain ⟨i, h1, h2⟩ := Xi hid
   exact hr rfl i (hs1 h1) id h2
  simp only [Gy, Et, Ng, Il] at e ⊢
  rw [Nm hx hrr, Ub hx hrr hy, Nn hx hrr hy] at e
  split at e
  ·rename_i hq
   rw [if_pos hq]
   exact Xk e
  ·rename_i hq
   rw [if_neg hq]
   exact Xk e
 case call c =>
  obtain ⟨callee, args, argTypes⟩ := c
  have hcal : callee = .builtin .len := by
   split at hl
   ·rename_i hq; exact hq
   ·cases hl
  subst hcal
  simp only [Gy, Et, Ng, Il] at e ⊢
  split at e
  ·rename_i x T ha ht
   have ha' : args = #[x] := by apply Array.toList_inj.1; simpa using ha
   subst ha'
   have hs1 : D0 [x] ⊆ Bf ⟨dst, .call ⟨.builtin .len, #[x], argTypes⟩, type, pos, after, guard⟩ := fun i hi => by
    cases x <;> simp [D0, Bf, Op.operands, Call.operands] at hi ⊢
    exact hi
   have hop := Nl (s := t) (t := s) (x := x) (fun i hi => hc i (hs1 hi))
   have hx := Uz hop
   have hrr : ∀ id, t.leaf x = some (.row id) → t.res id = s.res id := fun id hid => by
    obtain ⟨i, h1, h2⟩ := Xi hid
    exact hr rfl i (hs1 h1) id h2
   have hcc : Ef P t ⟨dst, .call ⟨.builtin .len, #[x], argTypes⟩, type, pos, after, guard⟩ = Ef P s ⟨dst, .call ⟨.builtin .len, #[x], argTypes⟩, type, pos, after, guard⟩ := by
    have hcx := Pb hop
    unfold Ef
    have e1 : ∀ y ∈ (Op.call ⟨.builtin .len, #[x], argTypes⟩).operands.toList, t.conc y = s.conc y := fun y hy => by
     simp [Op.operands, Call.operands] at hy
     rw [hy]; exact hcx
    rw [Np e1]
    split
    ·have : execOp (fun x => (t.conc x).getD undef) ⟨dst, .call ⟨.builtin .len, #[x], argTypes⟩, type, pos, after, guard⟩ = execOp (fun x => (s.conc x).getD undef) ⟨dst, .call ⟨.builtin .len, #[x], argTypes⟩, type, pos, after, guard⟩ :=
      execOp_congr _ (fun cs b q => by cases q) (fun y hy => by show (t.conc y).getD undef = (s.conc y).getD undef; rw [e1 y (Array.mem_toList_iff.2 hy)])
     rw [this]
    ·rfl
   split at e
   ·rename_i hsl
    rw [if_pos hsl]
    rw [Nm hx hrr, Xj hx hrr, Yt hx hrr (Pb hop)] at e
    split at e
    ·rename_i hq
     rw [if_pos hq]
     exact Rx e
    ·rename_i hq
     rw [if_neg hq]
     exact Rx e
   ·rename_i hsl
    rw [if_neg hsl]
    rw [hcc, Uc hx hrr] at e
    split at e
    ·rename_i hq
     rw [if_pos hq]
     exact Rx e
    ·rename_i hq
     rw [if_neg hq]
     exact Rx e
  ·cases e
theorem o6 {sigs : Tb} (hs : A2 P sigs) (h : Au n B Iq s g a w) {nid : Nat} {o : Oper} {av : AV} {v' : St} (e : Lr P sigs s nid o = some (av, v')) :
  Er P n B Iq s g a w o av (if Ev o then s else s.lay v' (G0 s o ++ Eo nid)) := by
 unfold Lr at e
 dsimp only at e
 split at e
 ·rename_i hfr
  split at e
  ·rename_i hcl
   obtain ⟨p, e1, e⟩ := Option.bind_eq_some_iff.1 e
   split at e
   ·rename_i h1
    split at e <;> cases e
    rename_i h2
    cases hlt : Ev o with
    | true =>
     refine Kd hs h (Yu (t := s.view (Bf o) (G0 s o)) hlt (fun i hi => ?_) (fun hm i hi id hid => ?_) e1).2
     ·simp [St.view, A0.2 hi]
     ·have : (s.view (Bf o) (G0 s o)).cell i = s.cell i := by simp [St.view, A0.2 hi]
      rw [this] at hid
      simp [St.view, A0.2 (Sz hm i hi id hid)]
    | false =>
     have c1 := Uy hcl
     have c2 := Uy h2
     have hmv : Ua o = false := by
      cases hq : Ua o with
      | false => rfl
      | true => rw [n7 hq] at hlt; cases hlt
     rw [hmv, Bool.false_or] at h1
     have hV := o5 h (sl := Bf o) (ids := G0 s o) (Sz hmv) c1.1 (c1.2 hlt)
     intro K Q hK
     refine Kd hs hV e1 K Q fun v gv' w' k1 k2 k3 => ?_
     obtain ⟨g', q1, q2, q3⟩ := Abv h (Mb hfr) k1 k2 (Pa.1 h1) c2.1 (c2.2 hlt)
     exact hK v g' w' q1 q2 (q3 v k3)
   ·cases e
  ·cases e
 ·cases e
end
end Go.Proofs.Ytkfoebbjncngjaa.R

