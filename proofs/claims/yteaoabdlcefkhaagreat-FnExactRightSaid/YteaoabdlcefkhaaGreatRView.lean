/- One operation, told of that part of the state that it looks at. No condition. -/
import Derived.Test.YteaoabdlcefkhaaGreatRInl
namespace Go.Proofs.YteaoabdlcefkhaaGreat.R
open Go Go.RowKit
set_option linter.unusedVariables false
set_option linter.unusedSimpArgs false
def Aak : Lf → List Nat
 | .row id => [id]
 | .ptr id _ => [id]
 | .rp id _ _ => [id]
 | .sp id => [id]
 | _ => []
def Wy : List Lf → List Nat
 | [] => []
 | l :: r => Aak l ++ Wy r
def Alf (v : Vl) : List Nat := Wy v.ls
def Akf : List Vl → List Nat
 | [] => []
 | v :: r => Alf v ++ Akf r
def Ni : AV → List Nat
 | .dead => []
 | .vl v => Alf v
 | .tp vs => Akf vs
 | .fn _ ls => Wy ls
def Wz : Res → List Nat
 | .box _ ls => Wy ls
 | _ => []
def Alg : Res → List Nat
 | .last _ _ _ _ j => [j]
 | _ => []
def K8 : List Operand → List Nat
 | [] => []
 | .tmp t :: r => t :: K8 r
 | _ :: r => K8 r
def Dt (o : Oper) : List Nat := K8 o.op.operands.toList
def Ki (l : List Nat) (i : Nat) : Bool := match l with
 | [] => false
 | j :: r => Nat.beq j i || Ki r i
theorem Cu {l : List Nat} {i : Nat} : Ki l i = true ↔ i ∈ l := by
 induction l with
 | nil => simp [Ki]
 | cons j r ih =>
  simp only [Ki, Bool.or_eq_true, ih, List.mem_cons, Nat.beq_eq]
  constructor
  ·rintro (h | h)
   ·exact .inl h.symm
   ·exact .inr h
  ·rintro (h | h)
   ·exact .inl h.symm
   ·exact .inr h
def H0 (s : St) : List Nat → List Nat
 | [] => []
 | i :: r => Ni (s.cell i) ++ H0 s r
def Jg (s : St) : List Nat → List Nat
 | [] => []
 | i :: r => Wz (s.res i) ++ Jg s r
def Acd (s : St) (sl : List Nat) : List Nat :=
 let l0 := H0 s sl
 let l1 := l0 ++ Jg s l0
 l1 ++ Jg s l1
def Aal (s : St) : List Nat → List Nat
 | [] => []
 | i :: r => Alg (s.res i) ++ Aal s r
def Qg (o : Oper) : Bool := match o.op with
 | .move x => !Aqa x
 | .assign x => !Aqa x
 | .indexAddr _ _ _ => true
 | .call c => (match c.callee with
  | .builtin .len => true
  | _ => false)
 | _ => false
def Rx (s : St) (o : Oper) : List Nat := if Qg o then Acd s (Dt o) else Acd s (Dt o) ++ Aal s (Acd s (Dt o))
def Ace (l m : List Nat) : Bool := match l with
 | [] => true
 | i :: r => Ki m i && Ace r m
theorem Ae6 {l m : List Nat} : Ace l m = true ↔ ∀ i ∈ l, i ∈ m := by
 induction l with
 | nil => simp [Ace]
 | cons j r ih => simp [Ace, Cu, ih]
def Aia : Nat := 4
def M9 (nid : Nat) : List Nat := [nid, nid + 1, nid + 2, nid + 3]
def St.view (s : St) (sl ids : List Nat) : St := ⟨fun i => if Ki sl i then s.cell i else .dead, fun id => if Ki ids id then s.res id else .unborn⟩
def St.lay (s v : St) (m : List Nat) : St := ⟨s.cell, fun id => if Ki m id then v.res id else s.res id⟩
def Rc (o : Oper) (s : St) (m : List Nat) : Bool := Ace (Jg s m) m && (Qg o || Ace (Aal s m) m)
def s7 (P : Program) (sigs : Tb) (s : St) (nid : Nat) (o : Oper) : Option (AV × St) :=
 let sl := Dt o
 let ids := Rx s o
 if Oz s nid Aia then (if Rc o s ids then (Rv P sigs (s.view sl ids) nid o).bind fun p =>
  if Ace (Ni p.1) (ids ++ M9 nid) then (if Rc o p.2 (ids ++ M9 nid) then some p else none) else none
 else none) else none
section
variable {P : Program} {n B : Nat} {Iq : List Nat} {s : St} {g : Gh} {a : Act} {w : World}
theorem Y8 (h : ∀ id, K5 s g w id (s.res id)) {id b : Nat} (hb : g.blk id = some b) : (s.res id).live = true := by
 have r := h id
 cases hr : s.res id with
 | box T ls => rfl
 | row e t xs => rfl
 | unborn => rw [hr] at r; exact absurd (hb.symm.trans r) (by simp)
 | dead => rw [hr] at r; exact absurd (hb.symm.trans r) (by simp)
 | frozen t xs => rw [hr] at r; exact absurd (hb.symm.trans r.2) (by simp)
 | last _ _ _ _ _ => rfl
 | map _ _ => rfl
 | iter _ _ _ _ => rfl
theorem Dl.part {s s' : St} {g g' : Gh} {w : World} {m : List Nat} (hS : ∀ b, Ep s g b → b < w.heap.size → Ep s' g' b) (hm : ∀ id ∈ m, s'.res id = s.res id ∧ g'.blk id = g.blk id ∧ g'.hdr id = g.hdr id) :
  ∀ {l : Lf} {u : Value}, (∀ id ∈ Aak l, id ∈ m) → Dl s g w l u → Dl s' g' w l u
 | .c _, _, _, h => h
 | .sl _ _, _, _, h => Ty.K_keep (fun b hb hl => ⟨hS b hb hl, rfl⟩) h
 | .row id, u, hi, h => by
  obtain ⟨e1, e2, e3⟩ := hm id (hi id (by simp [Aak]))
  simp only [Dl] at h ⊢
  rw [e1, e3]
  exact h
 | .ptr id off, u, hi, h => by
  obtain ⟨e1, e2, e3⟩ := hm id (hi id (by simp [Aak]))
  simp only [Dl] at h ⊢
  rw [e1, e2]
  exact h
 | .ep t xs i off, u, _, ⟨ad, cs, h1, h2, h3, h4, h5⟩ => ⟨ad, cs, h1, hS _ h2 h3, h3, Ty.K_keep (fun b hb hl => ⟨hS b hb hl, rfl⟩) h4, h5⟩
 | .rp id i off, u, hi, h => by
  obtain ⟨e1, e2, e3⟩ := hm id (hi id (by simp [Aak]))
  simp only [Dl] at h ⊢
  rw [e1, e2]
  exact h
 | .sp id, u, hi, h => by
  obtain ⟨e1, e2, e3⟩ := hm id (hi id (by simp [Aak]))
  simp only [Dl] at h ⊢
  rw [e1, e2]
  exact h
section
variable {s' : St} {g' : Gh} {m : List Nat} (hS : ∀ b, Ep s g b → b < w.heap.size → Ep s' g' b) (hm : ∀ id ∈ m, s'.res id = s.res id ∧ g'.blk id = g.blk id ∧ g'.hdr id = g.hdr id)
 include hS hm
theorem G8.part : ∀ {ls : List Lf} {cs : List Value}, (∀ id ∈ Wy ls, id ∈ m) → G8 s g w ls cs → G8 s' g' w ls cs
 | [], [], _, _ => trivial
 | [], _ :: _, _, h => h.elim
 | _ :: _, [], _, h => h.elim
 | l :: ls, _ :: _, hi, h => ⟨⟨Dl.part hS hm (fun id q => hi id (by simp [Wy, q])) h.1.1, h.1.2⟩, G8.part (fun id q => hi id (by simp [Wy, q])) h.2⟩
theorem VlR.part {v : Vl} {u : Value} (hi : ∀ id ∈ Alf v, id ∈ m) (h : VlR s g w v u) : VlR s' g' w v u := by
 cases v with
 | lf l => exact ⟨Dl.part hS hm (fun id q => hi id (by simp [Alf, Vl.ls, Wy, q])) h.1, h.2⟩
 | ag ls =>
  obtain ⟨cs, e, hL⟩ := h
  exact ⟨cs, e, G8.part hS hm hi hL⟩
theorem Ui.part {v : AV} {u : Value} (hi : ∀ id ∈ Ni v, id ∈ m) (h : Ui s g w v u) : Ui s' g' w v u := by
 cases v with
 | dead => trivial
 | vl v => exact VlR.part hS hm hi h
 | tp vs =>
  obtain ⟨us, h1, h2, h3⟩ := h
  refine ⟨us, h1, h2, fun j l hl => ?_⟩
  obtain ⟨v, e1, e2⟩ := h3 j l hl
  refine ⟨v, e1, VlR.part hS hm (fun id q => hi id ?_) e2⟩
  have hmem := List.mem_of_getElem? hl
  clear h1 h2 h3 hl e1 e2 hi
  induction vs with
  | nil => cases hmem
  | cons x r ih =>
   rcases List.mem_cons.1 hmem with rfl | hmem
   ·simp [Ni, Akf, q]
   ·have := ih hmem
    simp only [Ni, Akf, List.mem_append] at this ⊢
    exact .inr this
 | fn f ls =>
  obtain ⟨cs, h1, h2⟩ := h
  exact ⟨cs, h1, G8.part hS hm hi h2⟩
theorem K5.part {id : Nat} (hid : id ∈ m) {r : Res} (hi : ∀ j ∈ Wz r, j ∈ m) (hwk : ∀ j ∈ Alg r, j ∈ m) (h : K5 s g w id r) : K5 s' g' w id r := by
 obtain ⟨e1, e2, e3⟩ := hm id hid
 cases r with
 | unborn => exact e2.trans h
 | dead => exact e2.trans h
 | box T ls =>
  obtain ⟨b, cs, h1, h2, h3⟩ := h
  exact ⟨b, cs, e2.trans h1, h2, G8.part hS hm hi h3⟩
 | row e t xs =>
  obtain ⟨cs, h1, h2, h3⟩ := h
  exact ⟨cs, by rw [e3]; exact h1, h2.imp hS, by rw [e2, e3]; exact h3⟩
 | frozen t xs =>
  obtain ⟨h1, h2⟩ := h
  exact ⟨by rw [e3]; exact Ty.K_keep (fun b hb hl => ⟨hS b hb hl, rfl⟩) h1, e2.trans h2⟩
 | last e t xs c j =>
  obtain ⟨cs, h1, h2, h3, h4⟩ := h
  obtain ⟨q1, q2, q3⟩ := hm j (hwk j (by simp [Alg]))
  refine ⟨cs, by rw [e3]; exact h1, h2.imp hS, by rw [e2, e3]; exact h3, fun u hc hu => ?_⟩
  rw [q1, q3]
  exact h4 u hc hu
 | map t xs =>
  obtain ⟨b, es, clock, h1, h2, h3⟩ := h
  exact ⟨b, es, clock, e2.trans h1, e3.trans h2, h3⟩
 | iter t xs seen cur =>
  obtain ⟨b, r, es, clock, since, c0, sn, h1, h2, h3, h4, h5, h6⟩ := h
  exact ⟨b, r, es, clock, since, c0, sn, e2.trans h1, e3.trans h2, h3, hS b h4 h5, h5, h6⟩
end
theorem Alh {i id : Nat} : ∀ {l : List Nat}, i ∈ l → id ∈ Alg (s.res i) → id ∈ Aal s l
 | j :: r, h, q => by
  rcases List.mem_cons.1 h with rfl | h
  ·exact List.mem_append_left _ q
  ·exact List.mem_append_right _ (Alh h q)
def Gh.view (s : St) (g : Gh) (ids : List Nat) : Gh := ⟨fun id => if Ki ids id then g.blk id else none, g.hdr, fun b => g.av b ∨ ∃ id, id ∉ ids ∧ g.blk id = some b⟩
theorem s8 {i id : Nat} : ∀ {sl : List Nat}, i ∈ sl → id ∈ Ni (s.cell i) → id ∈ H0 s sl
 | j :: r, h, q => by
  rcases List.mem_cons.1 h with rfl | h
  ·exact List.mem_append_left _ q
  ·exact List.mem_append_right _ (s8 h q)
theorem Ahb {i id : Nat} : ∀ {l : List Nat}, i ∈ l → id ∈ Wz (s.res i) → id ∈ Jg s l
 | j :: r, h, q => by
  rcases List.mem_cons.1 h with rfl | h
  ·exact List.mem_append_left _ q
  ·exact List.mem_append_right _ (Ahb h q)
theorem A0x {sl ids : List Nat} (b : Nat) (hb : Ep s g b) (hres : ∀ id, K5 s g w id (s.res id)) : Ep (s.view sl ids) (g.view s ids) b := by
 refine ⟨?_, fun id hl hk => ?_⟩
 ·rintro (q | ⟨id, q1, q2⟩)
  ·exact hb.1 q
  ·exact hb.2 id (Y8 hres q2) q2
 ·simp only [Gh.view] at hk
  split at hk
  ·rename_i hid
   exact hb.2 id (Y8 hres hk) hk
  ·cases hk
theorem A0y (h : B0 n B Iq s g a w) {sl ids : List Nat} (hc : ∀ i ∈ sl, ∀ id ∈ Ni (s.cell i), id ∈ ids) (hr : ∀ i ∈ ids, ∀ id ∈ Wz (s.res i), id ∈ ids) (hw : ∀ i ∈ ids, ∀ id ∈ Alg (s.res i), id ∈ ids) :
  B0 n w.heap.size (ids.filterMap g.blk) (s.view sl ids) (g.view s ids) a w := by
 have hS : ∀ b, Ep s g b → b < w.heap.size → Ep (s.view sl ids) (g.view s ids) b := fun b hb _ => A0x b hb h.res
 have hm : ∀ id ∈ ids, (s.view sl ids).res id = s.res id ∧ (g.view s ids).blk id = g.blk id ∧ (g.view s ids).hdr id = g.hdr id := by
  intro id hid
  have := Cu.2 hid
  refine ⟨?_, ?_, rfl⟩
  ·simp [St.view, this]
  ·simp [Gh.view, this]
 refine ⟨h.size, h.defers, Nat.le_refl _, fun i => ?_, fun id => ?_, fun id id' b q1 q2 => ?_, fun id b q => ?_, fun b q => ?_⟩
 ·show Ui _ _ _ (if Ki sl i then s.cell i else .dead) _
  split
  ·rename_i hi
   exact Ui.part hS hm (hc i (Cu.1 hi)) (h.cell i)
  ·trivial
 ·by_cases hid : id ∈ ids
  ·rw [(hm id hid).1]
   exact K5.part hS hm hid (hr id hid) (hw id hid) (h.res id)
  ·have hf : Ki ids id = false := by
    cases hq : Ki ids id
    ·rfl
    ·exact absurd (Cu.1 hq) hid
   have : (s.view sl ids).res id = .unborn := by simp [St.view, hf]
   rw [this]
   show (g.view s ids).blk id = none
   simp [Gh.view, hf]
 ·simp only [Gh.view] at q1 q2
  split at q1
  ·split at q2
   ·exact h.inj id id' b q1 q2
   ·cases q2
  ·cases q1
 ·simp only [Gh.view] at q
  split at q
  ·rename_i hid
   have hid := Cu.1 hid
   refine ⟨(h.lt id b q).1, .inl (List.mem_filterMap.2 ⟨id, hid, q⟩), ?_⟩
   rintro (q2 | ⟨j, q2, q3⟩)
   ·exact (h.lt id b q).2.2 q2
   ·exact q2 (by rw [h.inj j id b q3 q]; exact hid)
  ·cases q
 ·rcases q with q | ⟨id, q1, q2⟩
  ·have := h.avB b q
   have := h.base
   omega
  ·exact (h.lt id b q2).1
theorem At7 {l m : List Nat} (h : Ace (Jg s l) m = true) : ∀ i ∈ l, ∀ id ∈ Wz (s.res i), id ∈ m :=
 fun i hi id hid => Ae6.1 h id (Ahb hi hid)
theorem Ahc {sl : List Nat} : ∀ i ∈ sl, ∀ id ∈ Ni (s.cell i), id ∈ Acd s sl :=
 fun i hi id hid => List.mem_append_left _ (List.mem_append_left _ (s8 hi hid))
theorem Aam {nid : Nat} (h : Oz s nid Aia = true) : ∀ id ∈ M9 nid, s.res id = .unborn := by
 intro id hid
 have : nid ≤ id ∧ id < nid + 4 := by
  simp only [M9, List.mem_cons, List.not_mem_nil, or_false] at hid
  omega
 exact Ak6 h id this.1 this.2
theorem A4d (h : B0 n B Iq s g a w) {sl ids : List Nat} {nid : Nat} {v' : St} {gv' : Gh} {w' : World} {av : AV} (hfr : ∀ id ∈ M9 nid, s.res id = .unborn)
  (hgo : Go w.heap.size (ids.filterMap g.blk) (s.view sl ids) (g.view s ids) w v' gv' w') (hR : B0 n w.heap.size (ids.filterMap g.blk) v' gv' a w')
  (hav : ∀ id ∈ Ni av, id ∈ ids ++ M9 nid) (hres : ∀ i ∈ ids ++ M9 nid, ∀ id ∈ Wz (v'.res i), id ∈ ids ++ M9 nid) (hwk : ∀ i ∈ ids ++ M9 nid, ∀ id ∈ Alg (v'.res i), id ∈ ids ++ M9 nid) :
  ∃ g', Go B Iq s g w (s.lay v' (ids ++ M9 nid)) g' w' ∧ B0 n B Iq (s.lay v' (ids ++ M9 nid)) g' a w' ∧ ∀ u, Ui v' gv' w' av u → Ui (s.lay v' (ids ++ M9 nid)) g' w' av u := by
 generalize hm : ids ++ M9 nid = m at hav hres hwk ⊢
 have hidm : ∀ id ∈ ids, id ∈ m := fun id q => by rw [← hm]; exact List.mem_append_left _ q
 have hmem : ∀ id ∈ m, id ∈ ids ∨ id ∈ M9 nid := fun id q => by rw [← hm] at q; exact List.mem_append.1 q
 have hin : ∀ id, Ki m id = true ↔ id ∈ m := fun id => Cu
 have hout : ∀ {id}, id ∉ m → Ki m id = false := fun {id} q => by
  cases hq : Ki m id
  ·rfl
  ·exact absurd ((hin id).1 hq) q
 refine ⟨⟨fun id => if Ki m id then gv'.blk id else g.blk id, fun id => if Ki m id then gv'.hdr id else g.hdr id, g.av⟩, ?_⟩
 generalize hg' : (⟨fun id => if Ki m id then gv'.blk id else g.blk id, fun id => if Ki m id then gv'.hdr id else g.hdr id, g.av⟩ : Gh) = g'
 generalize hs' : s.lay v' m = s'
 have e1 : ∀ id ∈ m, s'.res id = v'.res id ∧ g'.blk id = gv'.blk id ∧ g'.hdr id = gv'.hdr id := by
  intro id hid
  have := (hin id).2 hid
  subst hs' hg'
  simp [St.lay, this]
 have e2 : ∀ id, id ∉ m → s'.res id = s.res id ∧ g'.blk id = g.blk id ∧ g'.hdr id = g.hdr id := by
  intro id hid
  have := hout hid
  subst hs' hg'
  simp [St.lay, this]
 have ecell : s'.cell = s.cell := by subst hs'; rfl
 have eav : g'.av = g.av := by subst hg'; rfl
 have eavv : gv'.av = (g.view s ids).av := hgo.av
 have liveBlk : ∀ id b, g.blk id = some b → (s.res id).live = true := fun id b q => Y8 h.res q
 have hS2 : ∀ b, Ep v' gv' b → b < w'.heap.size → Ep s' g' b := by
  rintro b ⟨q1, q2⟩ _
  rw [eavv] at q1
  refine ⟨by rw [eav]; exact fun q => q1 (.inl q), fun id hl hk => ?_⟩
  by_cases hid : id ∈ m
  ·obtain ⟨a1, a2, a3⟩ := e1 id hid
   rw [a1] at hl
   rw [a2] at hk
   exact q2 id hl hk
  ·obtain ⟨a1, a2, a3⟩ := e2 id hid
   rw [a2] at hk
   exact q1 (.inr ⟨id, fun q => hid (hidm id q), hk⟩)
 have hS : ∀ b, Ep s g b → b < w.heap.size → Ep s' g' b ∧ w'.heap[b]? = w.heap[b]? := by
  intro b hb hlt
  obtain ⟨k1, k2⟩ := hgo.S b (A0x b hb h.res) hlt
  exact ⟨hS2 b k1 (Nat.lt_of_lt_of_le hlt hgo.kp.size), k2⟩
 have hI : ∀ id, A1 s g s' g' id := by
  intro id
  by_cases hid : id ∈ m
  ·obtain ⟨a1, a2, a3⟩ := e1 id hid
   rcases hmem id hid with q | q
   ·have r := hgo.ref id
    unfold A1 at r ⊢
    have hq := Cu.2 q
    have v1 : (s.view sl ids).res id = s.res id := by simp [St.view, hq]
    have v2 : (g.view s ids).blk id = g.blk id := by simp [Gh.view, hq]
    rw [v1, v2] at r
    rw [a1, a2, a3]
    exact r
   ·unfold A1
    rw [hfr id q]
    exact .inr trivial
  ·obtain ⟨a1, a2, a3⟩ := e2 id hid
   exact A1.same a1 a2 a3
 have hKp : Kp B Iq w w' := ⟨hgo.kp.os, hgo.kp.tape, hgo.kp.output, hgo.kp.size, fun k hk hkI => by
  refine hgo.kp.block k (Nat.lt_of_lt_of_le hk h.base) (fun q => ?_)
  obtain ⟨id, q1, q2⟩ := List.mem_filterMap.1 q
  rcases (h.lt id k q2).2.1 with q3 | q3
  ·exact hkI q3
  ·omega⟩
 refine ⟨⟨hKp, hS, hI, eav⟩, ?_, fun u hu => Ui.part hS2 e1 hav hu⟩
 refine h.step h.size h.defers hgo.kp.size hS hI (fun i => .inl ⟨by rw [ecell], rfl⟩) (fun j => ?_) (fun i j b hi hj => ?_) (fun i b hi => ?_) eav
 ·by_cases hj : j ∈ m
  ·right
   rw [(e1 j hj).1]
   exact K5.part hS2 e1 hj (hres j hj) (hwk j hj) (hR.res j)
  ·left
   obtain ⟨a1, a2, a3⟩ := e2 j hj
   refine ⟨a1, a2, a3, fun b hb => hgo.kp.block b (h.lt j b hb).1 (fun q => ?_)⟩
   obtain ⟨id, q1, q2⟩ := List.mem_filterMap.1 q
   exact hj (by rw [h.inj j id b hb q2]; exact hidm id q1)
 ·have far : ∀ i j b, i ∈ m → g'.blk i = some b → j ∉ m → g'.blk j = some b → False := by
   intro i j b him hi hjm hj
   rw [(e1 i him).2.1] at hi
   rw [(e2 j hjm).2.1] at hj
   refine (hR.lt i b hi).2.2 ?_
   rw [eavv]
   exact .inr ⟨j, fun q => hjm (hidm j q), hj⟩
  by_cases him : i ∈ m <;> by_cases hjm : j ∈ m
  ·rw [(e1 i him).2.1] at hi
   rw [(e1 j hjm).2.1] at hj
   exact hR.inj i j b hi hj
  ·exact (far i j b him hi hjm hj).elim
  ·exact (far j i b hjm hj him hi).elim
  ·rw [(e2 i him).2.1] at hi
   rw [(e2 j hjm).2.1] at hj
   exact h.inj i j b hi hj
 ·by_cases him : i ∈ m
  ·rw [(e1 i him).2.1] at hi
   obtain ⟨k1, k2, k3⟩ := hR.lt i b hi
   rw [eavv] at k3
   refine ⟨k1, ?_, fun q => k3 (.inl q)⟩
   rcases k2 with k2 | k2
   ·obtain ⟨id, q1, q2⟩ := List.mem_filterMap.1 k2
    exact (h.lt id b q2).2.1
   ·exact .inr (Nat.le_trans h.base k2)
  ·rw [(e2 i him).2.1] at hi
   obtain ⟨k1, k2⟩ := h.lt i b hi
   exact ⟨Nat.lt_of_lt_of_le k1 hgo.kp.size, k2⟩
theorem Aqd {o : Oper} {m : List Nat} (h : Rc o s m = true) : (∀ i ∈ m, ∀ id ∈ Wz (s.res i), id ∈ m) ∧ (Qg o = false → ∀ i ∈ m, ∀ id ∈ Alg (s.res i), id ∈ m) := by
 simp only [Rc, Bool.and_eq_true, Bool.or_eq_true] at h
 refine ⟨At7 h.1, fun hl i hi id hid => ?_⟩
 rcases h.2 with q | q
 ·rw [hl] at q; cases q
 ·exact Ae6.1 q id (Alh hi hid)
theorem Ali {o : Oper} : ∀ i ∈ Dt o, ∀ id ∈ Ni (s.cell i), id ∈ Rx s o := fun i hi id hid => by
 unfold Rx
 split
 ·exact Ahc i hi id hid
 ·exact List.mem_append_left _ (Ahc i hi id hid)
section
variable {s t : St}
theorem Acf {x : Operand} (h : ∀ i ∈ K8 [x], s.cell i = t.cell i) : s.op x = t.op x := by
 cases x with
 | tmp i => exact h i (by simp [K8])
 | const v => rfl
 | global _ => rfl
 | func _ => rfl
theorem Aqe {x : Operand} (h : s.op x = t.op x) : s.leaf x = t.leaf x := by unfold St.leaf; rw [h]
theorem Ae7 {x : Operand} (h : s.op x = t.op x) : s.conc x = t.conc x := by unfold St.conc; rw [h]
theorem At8 {x : Operand} {id : Nat} (h : s.leaf x = some (.row id)) : ∃ i ∈ K8 [x], id ∈ Ni (s.cell i) := by
 cases x with
 | tmp i =>
  refine ⟨i, by simp [K8], ?_⟩
  unfold St.leaf at h
  simp only [St.op] at h
  split at h
  ·rename_i l hl
   cases h
   rw [hl]
   simp [Ni, Alf, Vl.ls, Wy, Aak]
  ·cases h
 | const v =>
  unfold St.leaf at h
  simp only [St.op] at h
  split at h
  ·rename_i l hl
   cases h
   unfold Aj5 at hl
   split at hl
   ·split at hl <;> cases hl
   ·cases hl
   ·cases hl
  ·cases h
 | global _ => cases h
 | func _ => cases h
theorem Acg {x : Operand} (h : s.leaf x = t.leaf x) (hr : ∀ id, s.leaf x = some (.row id) → s.res id = t.res id) : j5 s x = j5 t x := by
 unfold j5
 rw [← h]
 split
 ·rename_i id hl
  rw [hr id hl]
 ·rfl
theorem Ax9 {x : Operand} (h : s.leaf x = t.leaf x) (hr : ∀ id, s.leaf x = some (.row id) → s.res id = t.res id) : (s.leaf x).bind s.sl = (t.leaf x).bind t.sl := by
 rw [← h]
 cases hl : s.leaf x with
 | none => rfl
 | some l =>
  cases l with
  | row id => simp only [Option.bind_some, St.sl]; rw [hr id hl]
  | _ => rfl
theorem Aot {T : TypeId} {x y : Operand} (h : s.leaf x = t.leaf x) (hr : ∀ id, s.leaf x = some (.row id) → s.res id = t.res id) (hy : s.conc y = t.conc y) : U4 P s T x y = U4 P t T x y := by
 unfold U4
 rw [← h, ← hy]
 split
 ·split
  ·rename_i id _ _ _ hl _
   rw [hr _ hl]
  ·rfl
 ·rfl
theorem At9 {T : TypeId} {x : Operand} (h : s.leaf x = t.leaf x) (hr : ∀ id, s.leaf x = some (.row id) → s.res id = t.res id) : Aew P s T x = Aew P t T x := by
 unfold Aew
 rw [← h]
 split
 ·split
  ·rename_i id hl
   rw [hr _ hl]
  ·rfl
 ·rfl
end
theorem Ach {s t : St} {T : TypeId} {x y : Operand} (h : s.leaf x = t.leaf x) (hr : ∀ id, s.leaf x = some (.row id) → s.res id = t.res id) (hy : s.conc y = t.conc y) : K7 P s T x y = K7 P t T x y := by
 unfold K7
 rw [Ax9 h hr, hy]
theorem Awx {s t : St} {T : TypeId} {x : Operand} (h : s.leaf x = t.leaf x) (hr : ∀ id, s.leaf x = some (.row id) → s.res id = t.res id) (hy : s.conc x = t.conc x) : Ap0 P s T x = Ap0 P t T x := by
 unfold Ap0
 rw [Ax9 h hr, hy]
theorem Aua {s t : St} {X : Option (List Bool × Lf)} {av : AV} {v' : St} (e : M1 (lfC t X) = some (av, v')) : v' = t ∧ M1 (lfC s X) = some (av, s) := by
 cases X with
 | none => cases e
 | some p =>
  simp only [lfC, M1] at e ⊢
  split at e <;> cases e
  rename_i hq
  exact ⟨rfl, by rw [if_pos hq]⟩
theorem Akg {s t : St} {X : Option Value} {av : AV} {v' : St} (e : M1 (v0 t X) = some (av, v')) : v' = t ∧ M1 (v0 s X) = some (av, s) := by
 cases X with
 | none => cases e
 | some p =>
  simp only [v0, M1] at e ⊢
  split at e <;> cases e
  rename_i hq
  exact ⟨rfl, by rw [if_pos hq]⟩
theorem Aci {s t : St} : ∀ {l : List Operand}, (∀ y ∈ l, s.conc y = t.conc y) → Wi s l = Wi t l
 | [], _ => rfl
 | y :: r, h => by
  simp only [Wi]
  rw [h y (by simp), Aci (fun z hz => h z (by simp [hz]))]
theorem Aou {s t : St} {T : TypeId} {x : Operand} (h : s.leaf x = t.leaf x) (hr : ∀ id, s.leaf x = some (.row id) → s.res id = t.res id) : U7 P s T x = U7 P t T x := by
 unfold U7
 rw [← h]
 split
 ·rename_i hl
  rw [hr _ hl]
 ·rfl
theorem Awy {sigs : Tb} {nid : Nat} {o : Oper} {t v' : St} {av : AV} (hl : Qg o = true) (hc : ∀ i ∈ Dt o, t.cell i = s.cell i) (hr : ∀ i ∈ Dt o, ∀ id ∈ Ni (t.cell i), t.res id = s.res id)
  (e : Rv P sigs t nid o = some (av, v')) : v' = t ∧ Rv P sigs s nid o = some (av, s) := by
 obtain ⟨dst, op, type, pos, after, guard⟩ := o
 cases op <;> simp only [Qg] at hl <;> first | (cases hl; done) | skip
 case move x =>
  have hx : t.op x = s.op x := Acf (fun i hi => hc i (by simpa [Dt, Op.operands] using hi))
  simp only [Bool.not_eq_true'] at hl
  simp only [Rv, Ng, Acb, U8, Y4, hl, avS, M1, Qf] at e ⊢
  cases e
  exact ⟨rfl, by rw [hx]; rfl⟩
 case assign x =>
  have hx : t.op x = s.op x := Acf (fun i hi => hc i (by simpa [Dt, Op.operands] using hi))
  simp only [Bool.not_eq_true'] at hl
  simp only [Rv, Ng, Acb, U8, Y4, hl, avS, M1, Qf] at e ⊢
  cases e
  exact ⟨rfl, by rw [hx]; rfl⟩
 case indexAddr T x y =>
  have hs1 : K8 [x] ⊆ Dt ⟨dst, .indexAddr T x y, type, pos, after, guard⟩ := fun i hi => by
   cases x <;> simp [K8, Dt, Op.operands] at hi ⊢
   exact .inl hi
  have hs2 : K8 [y] ⊆ Dt ⟨dst, .indexAddr T x y, type, pos, after, guard⟩ := fun i hi => by
   cases x <;> cases y <;> simp [K8, Dt, Op.operands] at hi ⊢ <;> first | exact hi | exact .inr hi
  have hx := Aqe (Acf (s := t) (t := s) (x := x) (fun i hi => hc i (hs1 hi)))
  have hy := Ae7 (Acf (s := t) (t := s) (x := y) (fun i hi => hc i (hs2 hi)))
  have hrr : ∀ id, t.leaf x = some (.row id) → t.res id = s.res id := fun id hid => by
   obtain ⟨i, h1, h2⟩ := At8 hid
   exact hr i (hs1 h1) id h2
  simp only [Rv, Ng, Acb, U8] at e ⊢
  rw [Acg hx hrr, Aot hx hrr hy, Ach hx hrr hy] at e
  split at e
  ·rename_i hq
   rw [if_pos hq]
   exact Aua e
  ·rename_i hq
   rw [if_neg hq]
   exact Aua e
 case call c =>
  obtain ⟨callee, args, argTypes⟩ := c
  have hcal : callee = .builtin .len := by
   split at hl
   ·rename_i hq; exact hq
   ·cases hl
  subst hcal
  simp only [Rv, Ng, Acb, U8] at e ⊢
  split at e
  ·rename_i x T ha ht
   have ha' : args = #[x] := by apply Array.toList_inj.1; simpa using ha
   subst ha'
   have hs1 : K8 [x] ⊆ Dt ⟨dst, .call ⟨.builtin .len, #[x], argTypes⟩, type, pos, after, guard⟩ := fun i hi => by
    cases x <;> simp [K8, Dt, Op.operands, Call.operands] at hi ⊢
    exact hi
   have hop := Acf (s := t) (t := s) (x := x) (fun i hi => hc i (hs1 hi))
   have hx := Aqe hop
   have hrr : ∀ id, t.leaf x = some (.row id) → t.res id = s.res id := fun id hid => by
    obtain ⟨i, h1, h2⟩ := At8 hid
    exact hr i (hs1 h1) id h2
   have hcc : L9 P t ⟨dst, .call ⟨.builtin .len, #[x], argTypes⟩, type, pos, after, guard⟩ = L9 P s ⟨dst, .call ⟨.builtin .len, #[x], argTypes⟩, type, pos, after, guard⟩ := by
    have hcx := Ae7 hop
    unfold L9
    have e1 : ∀ y ∈ (Op.call ⟨.builtin .len, #[x], argTypes⟩).operands.toList, t.conc y = s.conc y := fun y hy => by
     simp [Op.operands, Call.operands] at hy
     rw [hy]; exact hcx
    rw [Aci e1]
    split
    ·have : execOp (fun x => (t.conc x).getD undef) ⟨dst, .call ⟨.builtin .len, #[x], argTypes⟩, type, pos, after, guard⟩ = execOp (fun x => (s.conc x).getD undef) ⟨dst, .call ⟨.builtin .len, #[x], argTypes⟩, type, pos, after, guard⟩ :=
      execOp_congr _ (fun cs b q => by cases q) (fun y hy => by show (t.conc y).getD undef = (s.conc y).getD undef; rw [e1 y (Array.mem_toList_iff.2 hy)])
     rw [this]
    ·rfl
   split at e
   ·rename_i hsl
    rw [if_pos hsl]
    rw [Acg hx hrr, At9 hx hrr, Awx hx hrr (Ae7 hop)] at e
    split at e
    ·rename_i hq
     rw [if_pos hq]
     exact Akg e
    ·rename_i hq
     rw [if_neg hq]
     exact Akg e
   ·rename_i hsl
    rw [if_neg hsl]
    rw [hcc, Aou hx hrr] at e
    split at e
    ·rename_i hq
     rw [if_pos hq]
     exact Akg e
    ·rename_i hq
     rw [if_neg hq]
     exact Akg e
  ·cases e
theorem A0z {sigs : Tb} (hs : Au P sigs) (h : B0 n B Iq s g a w) {nid : Nat} {o : Oper} {av : AV} {v' : St} (e : s7 P sigs s nid o = some (av, v')) :
  Ou P n B Iq s g a w o av (if Qg o then s else s.lay v' (Rx s o ++ M9 nid)) := by
 unfold s7 at e
 dsimp only at e
 split at e
 ·rename_i hfr
  split at e
  ·rename_i hcl
   obtain ⟨p, e1, e⟩ := Option.bind_eq_some_iff.1 e
   split at e
   ·rename_i h1
    split at e <;> cases e
    rename_i h2
    cases hlt : Qg o with
    | true =>
     refine Y7 hs h (Awy (t := s.view (Dt o) (Rx s o)) hlt (fun i hi => ?_) (fun i hi id hid => ?_) e1).2
     ·simp [St.view, Cu.2 hi]
     ·have : (s.view (Dt o) (Rx s o)).cell i = s.cell i := by simp [St.view, Cu.2 hi]
      rw [this] at hid
      simp [St.view, Cu.2 (Ali i hi id hid)]
    | false =>
     have c1 := Aqd hcl
     have c2 := Aqd h2
     have hV := A0y h (sl := Dt o) (ids := Rx s o) Ali c1.1 (c1.2 hlt)
     intro K Q hK
     refine Y7 hs hV e1 K Q fun v gv' w' k1 k2 k3 => ?_
     obtain ⟨g', q1, q2, q3⟩ := A4d h (Aam hfr) k1 k2 (Ae6.1 h1) c2.1 (c2.2 hlt)
     exact hK v g' w' q1 q2 (q3 v k3)
   ·cases e
  ·cases e
 ·cases e
end
end Go.Proofs.YteaoabdlcefkhaaGreat.R

