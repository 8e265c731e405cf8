/- One operation, told of that part of the state that it looks at. No condition. -/
import Derived.Test.YteaoabdlcefkhaaGreatRInl
namespace Go.Proofs.YteaoabdlcefkhaaGreat.R
open Go Go.RowKit
set_option linter.unusedVariables false
set_option linter.unusedSimpArgs false
def l4 : Lf → List Nat
 | .row id => [id]
 | .ptr id _ => [id]
 | .rp id _ _ => [id]
 | .sp id => [id]
 | _ => []
def Vo : List Lf → List Nat
 | [] => []
 | l :: r => l4 l ++ Vo r
def Ajc (v : Vl) : List Nat := Vo v.ls
def Aia : List Vl → List Nat
 | [] => []
 | v :: r => Ajc v ++ Aia r
def L6 : AV → List Nat
 | .dead => []
 | .vl v => Ajc v
 | .tp vs => Aia vs
 | .fn _ ls => Vo ls
def Vp : Res → List Nat
 | .box _ ls => Vo ls
 | _ => []
def Ajd : Res → List Nat
 | .last _ _ _ _ j => [j]
 | _ => []
def Ka : List Operand → List Nat
 | [] => []
 | .tmp t :: r => t :: Ka r
 | _ :: r => Ka r
def Ea (o : Oper) : List Nat := Ka o.op.operands.toList
def Kr (l : List Nat) (i : Nat) : Bool := match l with
 | [] => false
 | j :: r => Nat.beq j i || Kr r i
theorem Ed {l : List Nat} {i : Nat} : Kr l i = true ↔ i ∈ l := by
 induction l with
 | nil => simp [Kr]
 | cons j r ih =>
  simp only [Kr, Bool.or_eq_true, ih, List.mem_cons, Nat.beq_eq]
  constructor
  ·rintro (h | h)
   ·exact .inl h.symm
   ·exact .inr h
  ·rintro (h | h)
   ·exact .inl h.symm
   ·exact .inr h
def He (s : St) : List Nat → List Nat
 | [] => []
 | i :: r => L6 (s.cell i) ++ He s r
def I1 (s : St) : List Nat → List Nat
 | [] => []
 | i :: r => Vp (s.res i) ++ I1 s r
def z7 (s : St) (sl : List Nat) : List Nat :=
 let l0 := He s sl
 let l1 := l0 ++ I1 s l0
 l1 ++ I1 s l1
def l5 (s : St) : List Nat → List Nat
 | [] => []
 | i :: r => Ajd (s.res i) ++ l5 s r
def O4 (o : Oper) : Bool := match o.op with
 | .move x => !Anl x
 | .assign x => !Anl x
 | .indexAddr _ _ _ => true
 | .call c => (match c.callee with
  | .builtin .len => true
  | _ => false)
 | _ => false
def Vq (s : St) (o : Oper) : List Nat := if O4 o then z7 s (Ea o) else z7 s (Ea o) ++ l5 s (z7 s (Ea o))
def z8 (l m : List Nat) : Bool := match l with
 | [] => true
 | i :: r => Kr m i && z8 r m
theorem Adh {l m : List Nat} : z8 l m = true ↔ ∀ i ∈ l, i ∈ m := by
 induction l with
 | nil => simp [z8]
 | cons j r ih => simp [z8, Ed, ih]
def Agp : Nat := 4
def O5 (nid : Nat) : List Nat := [nid, nid + 1, nid + 2, nid + 3]
def St.view (s : St) (sl ids : List Nat) : St := ⟨fun i => if Kr sl i then s.cell i else .dead, fun id => if Kr ids id then s.res id else .unborn⟩
def St.lay (s v : St) (m : List Nat) : St := ⟨s.cell, fun id => if Kr m id then v.res id else s.res id⟩
def Px (o : Oper) (s : St) (m : List Nat) : Bool := z8 (I1 s m) m && (O4 o || z8 (l5 s m) m)
def Aaa (P : Program) (sigs : Tb) (s : St) (nid : Nat) (o : Oper) : Option (AV × St) :=
 let sl := Ea o
 let ids := Vq s o
 if Nk s nid Agp then (if Px o s ids then (Tv P sigs (s.view sl ids) nid o).bind fun p =>
  if z8 (L6 p.1) (ids ++ O5 nid) then (if Px o p.2 (ids ++ O5 nid) then some p else none) else none
 else none) else none
section
variable {P : Program} {n B : Nat} {Iq : List Nat} {s : St} {g : Gh} {a : Act} {w : World}
theorem Xm (h : ∀ id, J7 s g w id (s.res id)) {id b : Nat} (hb : g.blk id = some b) : (s.res id).live = true := by
 have r := h id
 cases hr : s.res id with
 | box T ls => rfl
 | row e t xs => rfl
 | unborn => rw [hr] at r; exact absurd (hb.symm.trans r) (by simp)
 | dead => rw [hr] at r; exact absurd (hb.symm.trans r) (by simp)
 | frozen t xs => rw [hr] at r; exact absurd (hb.symm.trans r.2) (by simp)
 | last _ _ _ _ _ => rfl
 | map _ _ => rfl
 | iter _ _ _ _ => rfl
theorem De.part {s s' : St} {g g' : Gh} {w : World} {m : List Nat} (hS : ∀ b, D5 s g b → b < w.heap.size → D5 s' g' b) (hm : ∀ id ∈ m, s'.res id = s.res id ∧ g'.blk id = g.blk id ∧ g'.hdr id = g.hdr id) :
  ∀ {l : Lf} {u : Value}, (∀ id ∈ l4 l, id ∈ m) → De s g w l u → De s' g' w l u
 | .c _, _, _, h => h
 | .sl _ _, _, _, h => Ty.K_keep (fun b hb hl => ⟨hS b hb hl, rfl⟩) h
 | .row id, u, hi, h => by
  obtain ⟨e1, e2, e3⟩ := hm id (hi id (by simp [l4]))
  simp only [De] at h ⊢
  rw [e1, e3]
  exact h
 | .ptr id off, u, hi, h => by
  obtain ⟨e1, e2, e3⟩ := hm id (hi id (by simp [l4]))
  simp only [De] at h ⊢
  rw [e1, e2]
  exact h
 | .ep t xs i off, u, _, ⟨ad, cs, h1, h2, h3, h4, h5⟩ => ⟨ad, cs, h1, hS _ h2 h3, h3, Ty.K_keep (fun b hb hl => ⟨hS b hb hl, rfl⟩) h4, h5⟩
 | .rp id i off, u, hi, h => by
  obtain ⟨e1, e2, e3⟩ := hm id (hi id (by simp [l4]))
  simp only [De] at h ⊢
  rw [e1, e2]
  exact h
 | .sp id, u, hi, h => by
  obtain ⟨e1, e2, e3⟩ := hm id (hi id (by simp [l4]))
  simp only [De] at h ⊢
  rw [e1, e2]
  exact h
section
variable {s' : St} {g' : Gh} {m : List Nat} (hS : ∀ b, D5 s g b → b < w.heap.size → D5 s' g' b) (hm : ∀ id ∈ m, s'.res id = s.res id ∧ g'.blk id = g.blk id ∧ g'.hdr id = g.hdr id)
 include hS hm
theorem Gp.part : ∀ {ls : List Lf} {cs : List Value}, (∀ id ∈ Vo ls, id ∈ m) → Gp s g w ls cs → Gp s' g' w ls cs
 | [], [], _, _ => trivial
 | [], _ :: _, _, h => h.elim
 | _ :: _, [], _, h => h.elim
 | l :: ls, _ :: _, hi, h => ⟨⟨De.part hS hm (fun id q => hi id (by simp [Vo, q])) h.1.1, h.1.2⟩, Gp.part (fun id q => hi id (by simp [Vo, q])) h.2⟩
theorem w9.part {v : Vl} {u : Value} (hi : ∀ id ∈ Ajc v, id ∈ m) (h : w9 s g w v u) : w9 s' g' w v u := by
 cases v with
 | lf l => exact ⟨De.part hS hm (fun id q => hi id (by simp [Ajc, Vl.ls, Vo, q])) h.1, h.2⟩
 | ag ls =>
  obtain ⟨cs, e, hL⟩ := h
  exact ⟨cs, e, Gp.part hS hm hi hL⟩
theorem S4.part {v : AV} {u : Value} (hi : ∀ id ∈ L6 v, id ∈ m) (h : S4 s g w v u) : S4 s' g' w v u := by
 cases v with
 | dead => trivial
 | vl v => exact w9.part hS hm hi h
 | tp vs =>
  obtain ⟨us, h1, h2, h3⟩ := h
  refine ⟨us, h1, h2, fun j l hl => ?_⟩
  obtain ⟨v, e1, e2⟩ := h3 j l hl
  refine ⟨v, e1, w9.part hS hm (fun id q => hi id ?_) e2⟩
  have hmem := List.mem_of_getElem? hl
  clear h1 h2 h3 hl e1 e2 hi
  induction vs with
  | nil => cases hmem
  | cons x r ih =>
   rcases List.mem_cons.1 hmem with rfl | hmem
   ·simp [L6, Aia, q]
   ·have := ih hmem
    simp only [L6, Aia, List.mem_append] at this ⊢
    exact .inr this
 | fn f ls =>
  obtain ⟨cs, h1, h2⟩ := h
  exact ⟨cs, h1, Gp.part hS hm hi h2⟩
theorem J7.part {id : Nat} (hid : id ∈ m) {r : Res} (hi : ∀ j ∈ Vp r, j ∈ m) (hwk : ∀ j ∈ Ajd r, j ∈ m) (h : J7 s g w id r) : J7 s' g' w id r := by
 obtain ⟨e1, e2, e3⟩ := hm id hid
 cases r with
 | unborn => exact e2.trans h
 | dead => exact e2.trans h
 | box T ls =>
  obtain ⟨b, cs, h1, h2, h3⟩ := h
  exact ⟨b, cs, e2.trans h1, h2, Gp.part hS hm hi h3⟩
 | row e t xs =>
  obtain ⟨cs, h1, h2, h3⟩ := h
  exact ⟨cs, by rw [e3]; exact h1, h2.imp hS, by rw [e2, e3]; exact h3⟩
 | frozen t xs =>
  obtain ⟨h1, h2⟩ := h
  exact ⟨by rw [e3]; exact Ty.K_keep (fun b hb hl => ⟨hS b hb hl, rfl⟩) h1, e2.trans h2⟩
 | last e t xs c j =>
  obtain ⟨cs, h1, h2, h3, h4⟩ := h
  obtain ⟨q1, q2, q3⟩ := hm j (hwk j (by simp [Ajd]))
  refine ⟨cs, by rw [e3]; exact h1, h2.imp hS, by rw [e2, e3]; exact h3, fun u hc hu => ?_⟩
  rw [q1, q3]
  exact h4 u hc hu
 | map t xs =>
  obtain ⟨b, es, clock, h1, h2, h3⟩ := h
  exact ⟨b, es, clock, e2.trans h1, e3.trans h2, h3⟩
 | iter t xs seen cur =>
  obtain ⟨b, r, es, clock, since, c0, sn, h1, h2, h3, h4, h5, h6⟩ := h
  exact ⟨b, r, es, clock, since, c0, sn, e2.trans h1, e3.trans h2, h3, hS b h4 h5, h5, h6⟩
end
theorem Aje {i id : Nat} : ∀ {l : List Nat}, i ∈ l → id ∈ Ajd (s.res i) → id ∈ l5 s l
 | j :: r, h, q => by
  rcases List.mem_cons.1 h with rfl | h
  ·exact List.mem_append_left _ q
  ·exact List.mem_append_right _ (Aje h q)
def Gh.view (s : St) (g : Gh) (ids : List Nat) : Gh := ⟨fun id => if Kr ids id then g.blk id else none, g.hdr, fun b => g.av b ∨ ∃ id, id ∉ ids ∧ g.blk id = some b⟩
theorem c7 {i id : Nat} : ∀ {sl : List Nat}, i ∈ sl → id ∈ L6 (s.cell i) → id ∈ He s sl
 | j :: r, h, q => by
  rcases List.mem_cons.1 h with rfl | h
  ·exact List.mem_append_left _ q
  ·exact List.mem_append_right _ (c7 h q)
theorem Afn {i id : Nat} : ∀ {l : List Nat}, i ∈ l → id ∈ Vp (s.res i) → id ∈ I1 s l
 | j :: r, h, q => by
  rcases List.mem_cons.1 h with rfl | h
  ·exact List.mem_append_left _ q
  ·exact List.mem_append_right _ (Afn h q)
theorem Ayo {sl ids : List Nat} (b : Nat) (hb : D5 s g b) (hres : ∀ id, J7 s g w id (s.res id)) : D5 (s.view sl ids) (g.view s ids) b := by
 refine ⟨?_, fun id hl hk => ?_⟩
 ·rintro (q | ⟨id, q1, q2⟩)
  ·exact hb.1 q
  ·exact hb.2 id (Xm hres q2) q2
 ·simp only [Gh.view] at hk
  split at hk
  ·rename_i hid
   exact hb.2 id (Xm hres hk) hk
  ·cases hk
theorem Ayp (h : Bw n B Iq s g a w) {sl ids : List Nat} (hc : ∀ i ∈ sl, ∀ id ∈ L6 (s.cell i), id ∈ ids) (hr : ∀ i ∈ ids, ∀ id ∈ Vp (s.res i), id ∈ ids) (hw : ∀ i ∈ ids, ∀ id ∈ Ajd (s.res i), id ∈ ids) :
  Bw n w.heap.size (ids.filterMap g.blk) (s.view sl ids) (g.view s ids) a w := by
 have hS : ∀ b, D5 s g b → b < w.heap.size → D5 (s.view sl ids) (g.view s ids) b := fun b hb _ => Ayo b hb h.res
 have hm : ∀ id ∈ ids, (s.view sl ids).res id = s.res id ∧ (g.view s ids).blk id = g.blk id ∧ (g.view s ids).hdr id = g.hdr id := by
  intro id hid
  have := Ed.2 hid
  refine ⟨?_, ?_, rfl⟩
  ·simp [St.view, this]
  ·simp [Gh.view, this]
 refine ⟨h.size, h.defers, Nat.le_refl _, fun i => ?_, fun id => ?_, fun id id' b q1 q2 => ?_, fun id b q => ?_, fun b q => ?_⟩
 ·show S4 _ _ _ (if Kr sl i then s.cell i else .dead) _
  split
  ·rename_i hi
   exact S4.part hS hm (hc i (Ed.1 hi)) (h.cell i)
  ·trivial
 ·by_cases hid : id ∈ ids
  ·rw [(hm id hid).1]
   exact J7.part hS hm hid (hr id hid) (hw id hid) (h.res id)
  ·have hf : Kr ids id = false := by
    cases hq : Kr ids id
    ·rfl
    ·exact absurd (Ed.1 hq) hid
   have : (s.view sl ids).res id = .unborn := by simp [St.view, hf]
   rw [this]
   show (g.view s ids).blk id = none
   simp [Gh.view, hf]
 ·simp only [Gh.view] at q1 q2
  split at q1
  ·split at q2
   ·exact h.inj id id' b q1 q2
   ·cases q2
  ·cases q1
 ·simp only [Gh.view] at q
  split at q
  ·rename_i hid
   have hid := Ed.1 hid
   refine ⟨(h.lt id b q).1, .inl (List.mem_filterMap.2 ⟨id, hid, q⟩), ?_⟩
   rintro (q2 | ⟨j, q2, q3⟩)
   ·exact (h.lt id b q).2.2 q2
   ·exact q2 (by rw [h.inj j id b q3 q]; exact hid)
  ·cases q
 ·rcases q with q | ⟨id, q1, q2⟩
  ·have := h.avB b q
   have := h.base
   omega
  ·exact (h.lt id b q2).1
theorem Arq {l m : List Nat} (h : z8 (I1 s l) m = true) : ∀ i ∈ l, ∀ id ∈ Vp (s.res i), id ∈ m :=
 fun i hi id hid => Adh.1 h id (Afn hi hid)
theorem Afo {sl : List Nat} : ∀ i ∈ sl, ∀ id ∈ L6 (s.cell i), id ∈ z7 s sl :=
 fun i hi id hid => List.mem_append_left _ (List.mem_append_left _ (c7 hi hid))
theorem Ajf {nid : Nat} (h : Nk s nid Agp = true) : ∀ id ∈ O5 nid, s.res id = .unborn := by
 intro id hid
 have : nid ≤ id ∧ id < nid + 4 := by
  simp only [O5, List.mem_cons, List.not_mem_nil, or_false] at hid
  omega
 exact Ai1 h id this.1 this.2
theorem A19 (h : Bw n B Iq s g a w) {sl ids : List Nat} {nid : Nat} {v' : St} {gv' : Gh} {w' : World} {av : AV} (hfr : ∀ id ∈ O5 nid, s.res id = .unborn)
  (hgo : Go w.heap.size (ids.filterMap g.blk) (s.view sl ids) (g.view s ids) w v' gv' w') (hR : Bw n w.heap.size (ids.filterMap g.blk) v' gv' a w')
  (hav : ∀ id ∈ L6 av, id ∈ ids ++ O5 nid) (hres : ∀ i ∈ ids ++ O5 nid, ∀ id ∈ Vp (v'.res i), id ∈ ids ++ O5 nid) (hwk : ∀ i ∈ ids ++ O5 nid, ∀ id ∈ Ajd (v'.res i), id ∈ ids ++ O5 nid) :
  ∃ g', Go B Iq s g w (s.lay v' (ids ++ O5 nid)) g' w' ∧ Bw n B Iq (s.lay v' (ids ++ O5 nid)) g' a w' ∧ ∀ u, S4 v' gv' w' av u → S4 (s.lay v' (ids ++ O5 nid)) g' w' av u := by
 generalize hm : ids ++ O5 nid = m at hav hres hwk ⊢
 have hidm : ∀ id ∈ ids, id ∈ m := fun id q => by rw [← hm]; exact List.mem_append_left _ q
 have hmem : ∀ id ∈ m, id ∈ ids ∨ id ∈ O5 nid := fun id q => by rw [← hm] at q; exact List.mem_append.1 q
 have hin : ∀ id, Kr m id = true ↔ id ∈ m := fun id => Ed
 have hout : ∀ {id}, id ∉ m → Kr m id = false := fun {id} q => by
  cases hq : Kr m id
  ·rfl
  ·exact absurd ((hin id).1 hq) q
 refine ⟨⟨fun id => if Kr m id then gv'.blk id else g.blk id, fun id => if Kr m id then gv'.hdr id else g.hdr id, g.av⟩, ?_⟩
 generalize hg' : (⟨fun id => if Kr m id then gv'.blk id else g.blk id, fun id => if Kr m id then gv'.hdr id else g.hdr id, g.av⟩ : Gh) = g'
 generalize hs' : s.lay v' m = s'
 have e1 : ∀ id ∈ m, s'.res id = v'.res id ∧ g'.blk id = gv'.blk id ∧ g'.hdr id = gv'.hdr id := by
  intro id hid
  have := (hin id).2 hid
  subst hs' hg'
  simp [St.lay, this]
 have e2 : ∀ id, id ∉ m → s'.res id = s.res id ∧ g'.blk id = g.blk id ∧ g'.hdr id = g.hdr id := by
  intro id hid
  have := hout hid
  subst hs' hg'
  simp [St.lay, this]
 have ecell : s'.cell = s.cell := by subst hs'; rfl
 have eav : g'.av = g.av := by subst hg'; rfl
 have eavv : gv'.av = (g.view s ids).av := hgo.av
 have liveBlk : ∀ id b, g.blk id = some b → (s.res id).live = true := fun id b q => Xm h.res q
 have hS2 : ∀ b, D5 v' gv' b → b < w'.heap.size → D5 s' g' b := by
  rintro b ⟨q1, q2⟩ _
  rw [eavv] at q1
  refine ⟨by rw [eav]; exact fun q => q1 (.inl q), fun id hl hk => ?_⟩
  by_cases hid : id ∈ m
  ·obtain ⟨a1, a2, a3⟩ := e1 id hid
   rw [a1] at hl
   rw [a2] at hk
   exact q2 id hl hk
  ·obtain ⟨a1, a2, a3⟩ := e2 id hid
   rw [a2] at hk
   exact q1 (.inr ⟨id, fun q => hid (hidm id q), hk⟩)
 have hS : ∀ b, D5 s g b → b < w.heap.size → D5 s' g' b ∧ w'.heap[b]? = w.heap[b]? := by
  intro b hb hlt
  obtain ⟨k1, k2⟩ := hgo.S b (Ayo b hb h.res) hlt
  exact ⟨hS2 b k1 (Nat.lt_of_lt_of_le hlt hgo.kp.size), k2⟩
 have hI : ∀ id, Aw s g s' g' id := by
  intro id
  by_cases hid : id ∈ m
  ·obtain ⟨a1, a2, a3⟩ := e1 id hid
   rcases hmem id hid with q | q
   ·have r := hgo.ref id
    unfold Aw at r ⊢
    have hq := Ed.2 q
    have v1 : (s.view sl ids).res id = s.res id := by simp [St.view, hq]
    have v2 : (g.view s ids).blk id = g.blk id := by simp [Gh.view, hq]
    rw [v1, v2] at r
    rw [a1, a2, a3]
    exact r
   ·unfold Aw
    rw [hfr id q]
    exact .inr trivial
  ·obtain ⟨a1, a2, a3⟩ := e2 id hid
   exact Aw.same a1 a2 a3
 have hKp : Kp B Iq w w' := ⟨hgo.kp.os, hgo.kp.tape, hgo.kp.output, hgo.kp.size, fun k hk hkI => by
  refine hgo.kp.block k (Nat.lt_of_lt_of_le hk h.base) (fun q => ?_)
  obtain ⟨id, q1, q2⟩ := List.mem_filterMap.1 q
  rcases (h.lt id k q2).2.1 with q3 | q3
  ·exact hkI q3
  ·omega⟩
 refine ⟨⟨hKp, hS, hI, eav⟩, ?_, fun u hu => S4.part hS2 e1 hav hu⟩
 refine h.step h.size h.defers hgo.kp.size hS hI (fun i => .inl ⟨by rw [ecell], rfl⟩) (fun j => ?_) (fun i j b hi hj => ?_) (fun i b hi => ?_) eav
 ·by_cases hj : j ∈ m
  ·right
   rw [(e1 j hj).1]
   exact J7.part hS2 e1 hj (hres j hj) (hwk j hj) (hR.res j)
  ·left
   obtain ⟨a1, a2, a3⟩ := e2 j hj
   refine ⟨a1, a2, a3, fun b hb => hgo.kp.block b (h.lt j b hb).1 (fun q => ?_)⟩
   obtain ⟨id, q1, q2⟩ := List.mem_filterMap.1 q
   exact hj (by rw [h.inj j id b hb q2]; exact hidm id q1)
 ·have far : ∀ i j b, i ∈ m → g'.blk i = some b → j ∉ m → g'.blk j = some b → False := by
   intro i j b him hi hjm hj
   rw [(e1 i him).2.1] at hi
   rw [(e2 j hjm).2.1] at hj
   refine (hR.lt i b hi).2.2 ?_
   rw [eavv]
   exact .inr ⟨j, fun q => hjm (hidm j q), hj⟩
  by_cases him : i ∈ m <;> by_cases hjm : j ∈ m
  ·rw [(e1 i him).2.1] at hi
   rw [(e1 j hjm).2.1] at hj
   exact hR.inj i j b hi hj
  ·exact (far i j b him hi hjm hj).elim
  ·exact (far j i b hjm hj him hi).elim
  ·rw [(e2 i him).2.1] at hi
   rw [(e2 j hjm).2.1] at hj
   exact h.inj i j b hi hj
 ·by_cases him : i ∈ m
  ·rw [(e1 i him).2.1] at hi
   obtain ⟨k1, k2, k3⟩ := hR.lt i b hi
   rw [eavv] at k3
   refine ⟨k1, ?_, fun q => k3 (.inl q)⟩
   rcases k2 with k2 | k2
   ·obtain ⟨id, q1, q2⟩ := List.mem_filterMap.1 k2
    exact (h.lt id b q2).2.1
   ·exact .inr (Nat.le_trans h.base k2)
  ·rw [(e2 i him).2.1] at hi
   obtain ⟨k1, k2⟩ := h.lt i b hi
   exact ⟨Nat.lt_of_lt_of_le k1 hgo.kp.size, k2⟩
theorem Ano {o : Oper} {m : List Nat} (h : Px o s m = true) : (∀ i ∈ m, ∀ id ∈ Vp (s.res i), id ∈ m) ∧ (O4 o = false → ∀ i ∈ m, ∀ id ∈ Ajd (s.res i), id ∈ m) := by
 simp only [Px, Bool.and_eq_true, Bool.or_eq_true] at h
 refine ⟨Arq h.1, fun hl i hi id hid => ?_⟩
 rcases h.2 with q | q
 ·rw [hl] at q; cases q
 ·exact Adh.1 q id (Aje hi hid)
theorem Ajg {o : Oper} : ∀ i ∈ Ea o, ∀ id ∈ L6 (s.cell i), id ∈ Vq s o := fun i hi id hid => by
 unfold Vq
 split
 ·exact Afo i hi id hid
 ·exact List.mem_append_left _ (Afo i hi id hid)
section
variable {s t : St}
theorem Aab {x : Operand} (h : ∀ i ∈ Ka [x], s.cell i = t.cell i) : s.op x = t.op x := by
 cases x with
 | tmp i => exact h i (by simp [Ka])
 | const v => rfl
 | global _ => rfl
 | func _ => rfl
theorem Anp {x : Operand} (h : s.op x = t.op x) : s.leaf x = t.leaf x := by unfold St.leaf; rw [h]
theorem Adi {x : Operand} (h : s.op x = t.op x) : s.conc x = t.conc x := by unfold St.conc; rw [h]
theorem Arr {x : Operand} {id : Nat} (h : s.leaf x = some (.row id)) : ∃ i ∈ Ka [x], id ∈ L6 (s.cell i) := by
 cases x with
 | tmp i =>
  refine ⟨i, by simp [Ka], ?_⟩
  unfold St.leaf at h
  simp only [St.op] at h
  split at h
  ·rename_i l hl
   cases h
   rw [hl]
   simp [L6, Ajc, Vl.ls, Vo, l4]
  ·cases h
 | const v =>
  unfold St.leaf at h
  simp only [St.op] at h
  split at h
  ·rename_i l hl
   cases h
   unfold Ahz at hl
   split at hl
   ·split at hl <;> cases hl
   ·cases hl
   ·cases hl
  ·cases h
 | global _ => cases h
 | func _ => cases h
theorem Aac {x : Operand} (h : s.leaf x = t.leaf x) (hr : ∀ id, s.leaf x = some (.row id) → s.res id = t.res id) : Zc s x = Zc t x := by
 unfold Zc
 rw [← h]
 split
 ·rename_i id hl
  rw [hr id hl]
 ·rfl
theorem Avw {x : Operand} (h : s.leaf x = t.leaf x) (hr : ∀ id, s.leaf x = some (.row id) → s.res id = t.res id) : (s.leaf x).bind s.sl = (t.leaf x).bind t.sl := by
 rw [← h]
 cases hl : s.leaf x with
 | none => rfl
 | some l =>
  cases l with
  | row id => simp only [Option.bind_some, St.sl]; rw [hr id hl]
  | _ => rfl
theorem Ame {T : TypeId} {x y : Operand} (h : s.leaf x = t.leaf x) (hr : ∀ id, s.leaf x = some (.row id) → s.res id = t.res id) (hy : s.conc y = t.conc y) : Tp P s T x y = Tp P t T x y := by
 unfold Tp
 rw [← h, ← hy]
 split
 ·split
  ·rename_i id _ _ _ hl _
   rw [hr _ hl]
  ·rfl
 ·rfl
theorem Ars {T : TypeId} {x : Operand} (h : s.leaf x = t.leaf x) (hr : ∀ id, s.leaf x = some (.row id) → s.res id = t.res id) : Ac7 P s T x = Ac7 P t T x := by
 unfold Ac7
 rw [← h]
 split
 ·split
  ·rename_i id hl
   rw [hr _ hl]
  ·rfl
 ·rfl
end
theorem Aad {s t : St} {T : TypeId} {x y : Operand} (h : s.leaf x = t.leaf x) (hr : ∀ id, s.leaf x = some (.row id) → s.res id = t.res id) (hy : s.conc y = t.conc y) : J9 P s T x y = J9 P t T x y := by
 unfold J9
 rw [Avw h hr, hy]
theorem Auf {s t : St} {T : TypeId} {x : Operand} (h : s.leaf x = t.leaf x) (hr : ∀ id, s.leaf x = some (.row id) → s.res id = t.res id) (hy : s.conc x = t.conc x) : Anb P s T x = Anb P t T x := by
 unfold Anb
 rw [Avw h hr, hy]
theorem Art {s t : St} {X : Option (List Bool × Lf)} {av : AV} {v' : St} (e : Lz (lfC t X) = some (av, v')) : v' = t ∧ Lz (lfC s X) = some (av, s) := by
 cases X with
 | none => cases e
 | some p =>
  simp only [lfC, Lz] at e ⊢
  split at e <;> cases e
  rename_i hq
  exact ⟨rfl, by rw [if_pos hq]⟩
theorem Aib {s t : St} {X : Option Value} {av : AV} {v' : St} (e : Lz (v0 t X) = some (av, v')) : v' = t ∧ Lz (v0 s X) = some (av, s) := by
 cases X with
 | none => cases e
 | some p =>
  simp only [v0, Lz] at e ⊢
  split at e <;> cases e
  rename_i hq
  exact ⟨rfl, by rw [if_pos hq]⟩
theorem Aae {s t : St} : ∀ {l : List Operand}, (∀ y ∈ l, s.conc y = t.conc y) → U8 s l = U8 t l
 | [], _ => rfl
 | y :: r, h => by
  simp only [U8]
  rw [h y (by simp), Aae (fun z hz => h z (by simp [hz]))]
theorem Amf {s t : St} {T : TypeId} {x : Operand} (h : s.leaf x = t.leaf x) (hr : ∀ id, s.leaf x = some (.row id) → s.res id = t.res id) : Tt P s T x = Tt P t T x := by
 unfold Tt
 rw [← h]
 split
 ·rename_i hl
  rw [hr _ hl]
 ·rfl
theorem Aug {sigs : Tb} {nid : Nat} {o : Oper} {t v' : St} {av : AV} (hl : O4 o = true) (hc : ∀ i ∈ Ea o, t.cell i = s.cell i) (hr : ∀ i ∈ Ea o, ∀ id ∈ L6 (t.cell i), t.res id = s.res id)
  (e : Tv P sigs t nid o = some (av, v')) : v' = t ∧ Tv P sigs s nid o = some (av, s) := by
 obtain ⟨dst, op, type, pos, after, guard⟩ := o
 cases op <;> simp only [O4] at hl <;> first | (cases hl; done) | skip
 case move x =>
  have hx : t.op x = s.op x := Aab (fun i hi => hc i (by simpa [Ea, Op.operands] using hi))
  simp only [Bool.not_eq_true'] at hl
  simp only [Tv, Nl, z2, Tu, Xi, hl, avS, Lz, O3] at e ⊢
  cases e
  exact ⟨rfl, by rw [hx]; rfl⟩
 case assign x =>
  have hx : t.op x = s.op x := Aab (fun i hi => hc i (by simpa [Ea, Op.operands] using hi))
  simp only [Bool.not_eq_true'] at hl
  simp only [Tv, Nl, z2, Tu, Xi, hl, avS, Lz, O3] at e ⊢
  cases e
  exact ⟨rfl, by rw [hx]; rfl⟩
 case indexAddr T x y =>
  have hs1 : Ka [x] ⊆ Ea ⟨dst, .indexAddr T x y, type, pos, after, guard⟩ := fun i hi => by
   cases x <;> simp [Ka, Ea, Op.operands] at hi ⊢
   exact .inl hi
  have hs2 : Ka [y] ⊆ Ea ⟨dst, .indexAddr T x y, type, pos, after, guard⟩ := fun i hi => by
   cases x <;> cases y <;> simp [Ka, Ea, Op.operands] at hi ⊢ <;> first | exact hi | exact .inr hi
  have hx := Anp (Aab (s := t) (t := s) (x := x) (fun i hi => hc i (hs1 hi)))
  have hy := Adi (Aab (s := t) (t := s) (x := y) (fun i hi => hc i (hs2 hi)))
  have hrr : ∀ id, t.leaf x = some (.row id) → t.res id = s.res id := fun id hid => by
   obtain ⟨i, h1, h2⟩ := Arr hid
   exact hr i (hs1 h1) id h2
  simp only [Tv, Nl, z2, Tu] at e ⊢
  rw [Aac hx hrr, Ame hx hrr hy, Aad hx hrr hy] at e
  split at e
  ·rename_i hq
   rw [if_pos hq]
   exact Art e
  ·rename_i hq
   rw [if_neg hq]
   exact Art e
 case call c =>
  obtain ⟨callee, args, argTypes⟩ := c
  have hcal : callee = .builtin .len := by
   split at hl
   ·rename_i hq; exact hq
   ·cases hl
  subst hcal
  simp only [Tv, Nl, z2, Tu] at e ⊢
  split at e
  ·rename_i x T ha ht
   have ha' : args = #[x] := by apply Array.toList_inj.1; simpa using ha
   subst ha'
   have hs1 : Ka [x] ⊆ Ea ⟨dst, .call ⟨.builtin .len, #[x], argTypes⟩, type, pos, after, guard⟩ := fun i hi => by
    cases x <;> simp [Ka, Ea, Op.operands, Call.operands] at hi ⊢
    exact hi
   have hop := Aab (s := t) (t := s) (x := x) (fun i hi => hc i (hs1 hi))
   have hx := Anp hop
   have hrr : ∀ id, t.leaf x = some (.row id) → t.res id = s.res id := fun id hid => by
    obtain ⟨i, h1, h2⟩ := Arr hid
    exact hr i (hs1 h1) id h2
   have hcc : K9 P t ⟨dst, .call ⟨.builtin .len, #[x], argTypes⟩, type, pos, after, guard⟩ = K9 P s ⟨dst, .call ⟨.builtin .len, #[x], argTypes⟩, type, pos, after, guard⟩ := by
    have hcx := Adi hop
    unfold K9
    have e1 : ∀ y ∈ (Op.call ⟨.builtin .len, #[x], argTypes⟩).operands.toList, t.conc y = s.conc y := fun y hy => by
     simp [Op.operands, Call.operands] at hy
     rw [hy]; exact hcx
    rw [Aae e1]
    split
    ·have : execOp (fun x => (t.conc x).getD undef) ⟨dst, .call ⟨.builtin .len, #[x], argTypes⟩, type, pos, after, guard⟩ = execOp (fun x => (s.conc x).getD undef) ⟨dst, .call ⟨.builtin .len, #[x], argTypes⟩, type, pos, after, guard⟩ :=
      execOp_congr _ (fun cs b q => by cases q) (fun y hy => by show (t.conc y).getD undef = (s.conc y).getD undef; rw [e1 y (Array.mem_toList_iff.2 hy)])
     rw [this]
    ·rfl
   split at e
   ·rename_i hsl
    rw [if_pos hsl]
    rw [Aac hx hrr, Ars hx hrr, Auf hx hrr (Adi hop)] at e
    split at e
    ·rename_i hq
     rw [if_pos hq]
     exact Aib e
    ·rename_i hq
     rw [if_neg hq]
     exact Aib e
   ·rename_i hsl
    rw [if_neg hsl]
    rw [hcc, Amf hx hrr] at e
    split at e
    ·rename_i hq
     rw [if_pos hq]
     exact Aib e
    ·rename_i hq
     rw [if_neg hq]
     exact Aib e
  ·cases e
theorem Ayq {sigs : Tb} (hs : As P sigs) (h : Bw n B Iq s g a w) {nid : Nat} {o : Oper} {av : AV} {v' : St} (e : Aaa P sigs s nid o = some (av, v')) :
  Nf P n B Iq s g a w o av (if O4 o then s else s.lay v' (Vq s o ++ O5 nid)) := by
 unfold Aaa at e
 dsimp only at e
 split at e
 ·rename_i hfr
  split at e
  ·rename_i hcl
   obtain ⟨p, e1, e⟩ := Option.bind_eq_some_iff.1 e
   split at e
   ·rename_i h1
    split at e <;> cases e
    rename_i h2
    cases hlt : O4 o with
    | true =>
     refine Xl hs h (Aug (t := s.view (Ea o) (Vq s o)) hlt (fun i hi => ?_) (fun i hi id hid => ?_) e1).2
     ·simp [St.view, Ed.2 hi]
     ·have : (s.view (Ea o) (Vq s o)).cell i = s.cell i := by simp [St.view, Ed.2 hi]
      rw [this] at hid
      simp [St.view, Ed.2 (Ajg i hi id hid)]
    | false =>
     have c1 := Ano hcl
     have c2 := Ano h2
     have hV := Ayp h (sl := Ea o) (ids := Vq s o) Ajg c1.1 (c1.2 hlt)
     intro K Q hK
     refine Xl hs hV e1 K Q fun v gv' w' k1 k2 k3 => ?_
     obtain ⟨g', q1, q2, q3⟩ := A19 h (Ajf hfr) k1 k2 (Adh.1 h1) c2.1 (c2.2 hlt)
     exact hK v g' w' q1 q2 (q3 v k3)
   ·cases e
  ·cases e
 ·cases e
end
end Go.Proofs.YteaoabdlcefkhaaGreat.R

