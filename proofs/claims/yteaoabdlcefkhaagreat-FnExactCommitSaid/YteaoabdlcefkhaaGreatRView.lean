/- One operation, told of that part of the state that it looks at. No condition. -/
import Derived.Test.YteaoabdlcefkhaaGreatRInl
namespace Go.Proofs.YteaoabdlcefkhaaGreat.R
open Go Go.RowKit
set_option linter.unusedVariables false
set_option linter.unusedSimpArgs false
def U2 : Lf → List Nat
 | .row id => [id]
 | .ptr id _ => [id]
 | .rp id _ _ => [id]
 | .sp id => [id]
 | _ => []
def Qd : List Lf → List Nat
 | [] => []
 | l :: r => U2 l ++ Qd r
def Abt (v : Vl) : List Nat := Qd v.ls
def Aas : List Vl → List Nat
 | [] => []
 | v :: r => Abt v ++ Aas r
def I3 : AV → List Nat
 | .dead => []
 | .vl v => Abt v
 | .tp vs => Aas vs
 | .fn _ ls => Qd ls
def Qe : Res → List Nat
 | .box _ ls => Qd ls
 | _ => []
def Abu : Res → List Nat
 | .last _ _ _ _ j => [j]
 | _ => []
def Hj : List Operand → List Nat
 | [] => []
 | .tmp t :: r => t :: Hj r
 | _ :: r => Hj r
def Cx (o : Oper) : List Nat := Hj o.op.operands.toList
def Hw (l : List Nat) (i : Nat) : Bool := match l with
 | [] => false
 | j :: r => Nat.beq j i || Hw r i
theorem C0 {l : List Nat} {i : Nat} : Hw l i = true ↔ i ∈ l := by
 induction l with
 | nil => simp [Hw]
 | cons j r ih =>
  simp only [Hw, Bool.or_eq_true, ih, List.mem_cons, Nat.beq_eq]
  constructor
  ·rintro (h | h)
   ·exact .inl h.symm
   ·exact .inr h
  ·rintro (h | h)
   ·exact .inl h.symm
   ·exact .inr h
def Fb (s : St) : List Nat → List Nat
 | [] => []
 | i :: r => I3 (s.cell i) ++ Fb s r
def Ga (s : St) : List Nat → List Nat
 | [] => []
 | i :: r => Qe (s.res i) ++ Ga s r
def Wi (s : St) (sl : List Nat) : List Nat :=
 let l0 := Fb s sl
 let l1 := l0 ++ Ga s l0
 l1 ++ Ga s l1
def U3 (s : St) : List Nat → List Nat
 | [] => []
 | i :: r => Abu (s.res i) ++ U3 s r
def K7 (o : Oper) : Bool := match o.op with
 | .move x => !Afm x
 | .assign x => !Afm x
 | .indexAddr _ _ _ => true
 | .call c => (match c.callee with
  | .builtin .len => true
  | _ => false)
 | _ => false
def Qf (s : St) (o : Oper) : List Nat := if K7 o then Wi s (Cx o) else Wi s (Cx o) ++ U3 s (Wi s (Cx o))
def Wj (l m : List Nat) : Bool := match l with
 | [] => true
 | i :: r => Hw m i && Wj r m
theorem Y7 {l m : List Nat} : Wj l m = true ↔ ∀ i ∈ l, i ∈ m := by
 induction l with
 | nil => simp [Wj]
 | cons j r ih => simp [Wj, C0, ih]
def m7 : Nat := 4
def K8 (nid : Nat) : List Nat := [nid, nid + 1, nid + 2, nid + 3]
def St.view (s : St) (sl ids : List Nat) : St := ⟨fun i => if Hw sl i then s.cell i else .dead, fun id => if Hw ids id then s.res id else .unborn⟩
def St.lay (s v : St) (m : List Nat) : St := ⟨s.cell, fun id => if Hw m id then v.res id else s.res id⟩
def Lz (o : Oper) (s : St) (m : List Nat) : Bool := Wj (Ga s m) m && (K7 o || Wj (U3 s m) m)
def Wk (P : Program) (sigs : Tb) (s : St) (nid : Nat) (o : Oper) : Option (AV × St) :=
 let sl := Cx o
 let ids := Qf s o
 if J4 s nid m7 then (if Lz o s ids then (Oz P sigs (s.view sl ids) nid o).bind fun p =>
  if Wj (I3 p.1) (ids ++ K8 nid) then (if Lz o p.2 (ids ++ K8 nid) then some p else none) else none
 else none) else none
section
variable {P : Program} {n B : Nat} {Iq : List Nat} {s : St} {g : Gh} {a : Act} {w : World}
theorem R0 (h : ∀ id, Hg s g w id (s.res id)) {id b : Nat} (hb : g.blk id = some b) : (s.res id).live = true := by
 have r := h id
 cases hr : s.res id with
 | box T ls => rfl
 | row e t xs => rfl
 | unborn => rw [hr] at r; exact absurd (hb.symm.trans r) (by simp)
 | dead => rw [hr] at r; exact absurd (hb.symm.trans r) (by simp)
 | frozen t xs => rw [hr] at r; exact absurd (hb.symm.trans r.2) (by simp)
 | last _ _ _ _ _ => rfl
 | map _ _ => rfl
 | iter _ _ _ _ => rfl
theorem Cb.part {s s' : St} {g g' : Gh} {w : World} {m : List Nat} (hS : ∀ b, Cv s g b → b < w.heap.size → Cv s' g' b) (hm : ∀ id ∈ m, s'.res id = s.res id ∧ g'.blk id = g.blk id ∧ g'.hdr id = g.hdr id) :
  ∀ {l : Lf} {u : Value}, (∀ id ∈ U2 l, id ∈ m) → Cb s g w l u → Cb s' g' w l u
 | .c _, _, _, h => h
 | .sl _ _, _, _, h => Ty.K_keep (fun b hb hl => ⟨hS b hb hl, rfl⟩) h
 | .row id, u, hi, h => by
  obtain ⟨e1, e2, e3⟩ := hm id (hi id (by simp [U2]))
  simp only [Cb] at h ⊢
  rw [e1, e3]
  exact h
 | .ptr id off, u, hi, h => by
  obtain ⟨e1, e2, e3⟩ := hm id (hi id (by simp [U2]))
  simp only [Cb] at h ⊢
  rw [e1, e2]
  exact h
 | .ep t xs i off, u, _, ⟨ad, cs, h1, h2, h3, h4, h5⟩ => ⟨ad, cs, h1, hS _ h2 h3, h3, Ty.K_keep (fun b hb hl => ⟨hS b hb hl, rfl⟩) h4, h5⟩
 | .rp id i off, u, hi, h => by
  obtain ⟨e1, e2, e3⟩ := hm id (hi id (by simp [U2]))
  simp only [Cb] at h ⊢
  rw [e1, e2]
  exact h
 | .sp id, u, hi, h => by
  obtain ⟨e1, e2, e3⟩ := hm id (hi id (by simp [U2]))
  simp only [Cb] at h ⊢
  rw [e1, e2]
  exact h
section
variable {s' : St} {g' : Gh} {m : List Nat} (hS : ∀ b, Cv s g b → b < w.heap.size → Cv s' g' b) (hm : ∀ id ∈ m, s'.res id = s.res id ∧ g'.blk id = g.blk id ∧ g'.hdr id = g.hdr id)
 include hS hm
theorem Eo.part : ∀ {ls : List Lf} {cs : List Value}, (∀ id ∈ Qd ls, id ∈ m) → Eo s g w ls cs → Eo s' g' w ls cs
 | [], [], _, _ => trivial
 | [], _ :: _, _, h => h.elim
 | _ :: _, [], _, h => h.elim
 | l :: ls, _ :: _, hi, h => ⟨⟨Cb.part hS hm (fun id q => hi id (by simp [Qd, q])) h.1.1, h.1.2⟩, Eo.part (fun id q => hi id (by simp [Qd, q])) h.2⟩
theorem V4.part {v : Vl} {u : Value} (hi : ∀ id ∈ Abt v, id ∈ m) (h : V4 s g w v u) : V4 s' g' w v u := by
 cases v with
 | lf l => exact ⟨Cb.part hS hm (fun id q => hi id (by simp [Abt, Vl.ls, Qd, q])) h.1, h.2⟩
 | ag ls =>
  obtain ⟨cs, e, hL⟩ := h
  exact ⟨cs, e, Eo.part hS hm hi hL⟩
theorem Ob.part {v : AV} {u : Value} (hi : ∀ id ∈ I3 v, id ∈ m) (h : Ob s g w v u) : Ob s' g' w v u := by
 cases v with
 | dead => trivial
 | vl v => exact V4.part hS hm hi h
 | tp vs =>
  obtain ⟨us, h1, h2, h3⟩ := h
  refine ⟨us, h1, h2, fun j l hl => ?_⟩
  obtain ⟨v, e1, e2⟩ := h3 j l hl
  refine ⟨v, e1, V4.part hS hm (fun id q => hi id ?_) e2⟩
  have hmem := List.mem_of_getElem? hl
  clear h1 h2 h3 hl e1 e2 hi
  induction vs with
  | nil => cases hmem
  | cons x r ih =>
   rcases List.mem_cons.1 hmem with rfl | hmem
   ·simp [I3, Aas, q]
   ·have := ih hmem
    simp only [I3, Aas, List.mem_append] at this ⊢
    exact .inr this
 | fn f ls =>
  obtain ⟨cs, h1, h2⟩ := h
  exact ⟨cs, h1, Eo.part hS hm hi h2⟩
theorem Hg.part {id : Nat} (hid : id ∈ m) {r : Res} (hi : ∀ j ∈ Qe r, j ∈ m) (hwk : ∀ j ∈ Abu r, j ∈ m) (h : Hg s g w id r) : Hg s' g' w id r := by
 obtain ⟨e1, e2, e3⟩ := hm id hid
 cases r with
 | unborn => exact e2.trans h
 | dead => exact e2.trans h
 | box T ls =>
  obtain ⟨b, cs, h1, h2, h3⟩ := h
  exact ⟨b, cs, e2.trans h1, h2, Eo.part hS hm hi h3⟩
 | row e t xs =>
  obtain ⟨cs, h1, h2, h3⟩ := h
  exact ⟨cs, by rw [e3]; exact h1, h2.imp hS, by rw [e2, e3]; exact h3⟩
 | frozen t xs =>
  obtain ⟨h1, h2⟩ := h
  exact ⟨by rw [e3]; exact Ty.K_keep (fun b hb hl => ⟨hS b hb hl, rfl⟩) h1, e2.trans h2⟩
 | last e t xs c j =>
  obtain ⟨cs, h1, h2, h3, h4⟩ := h
  obtain ⟨q1, q2, q3⟩ := hm j (hwk j (by simp [Abu]))
  refine ⟨cs, by rw [e3]; exact h1, h2.imp hS, by rw [e2, e3]; exact h3, fun u hc hu => ?_⟩
  rw [q1, q3]
  exact h4 u hc hu
 | map t xs =>
  obtain ⟨b, es, clock, h1, h2, h3⟩ := h
  exact ⟨b, es, clock, e2.trans h1, e3.trans h2, h3⟩
 | iter t xs seen cur =>
  obtain ⟨b, r, es, clock, since, c0, sn, h1, h2, h3, h4, h5, h6⟩ := h
  exact ⟨b, r, es, clock, since, c0, sn, e2.trans h1, e3.trans h2, h3, hS b h4 h5, h5, h6⟩
end
theorem Abv {i id : Nat} : ∀ {l : List Nat}, i ∈ l → id ∈ Abu (s.res i) → id ∈ U3 s l
 | j :: r, h, q => by
  rcases List.mem_cons.1 h with rfl | h
  ·exact List.mem_append_left _ q
  ·exact List.mem_append_right _ (Abv h q)
def Gh.view (s : St) (g : Gh) (ids : List Nat) : Gh := ⟨fun id => if Hw ids id then g.blk id else none, g.hdr, fun b => g.av b ∨ ∃ id, id ∉ ids ∧ g.blk id = some b⟩
theorem Ua {i id : Nat} : ∀ {sl : List Nat}, i ∈ sl → id ∈ I3 (s.cell i) → id ∈ Fb s sl
 | j :: r, h, q => by
  rcases List.mem_cons.1 h with rfl | h
  ·exact List.mem_append_left _ q
  ·exact List.mem_append_right _ (Ua h q)
theorem g8 {i id : Nat} : ∀ {l : List Nat}, i ∈ l → id ∈ Qe (s.res i) → id ∈ Ga s l
 | j :: r, h, q => by
  rcases List.mem_cons.1 h with rfl | h
  ·exact List.mem_append_left _ q
  ·exact List.mem_append_right _ (g8 h q)
theorem Ao3 {sl ids : List Nat} (b : Nat) (hb : Cv s g b) (hres : ∀ id, Hg s g w id (s.res id)) : Cv (s.view sl ids) (g.view s ids) b := by
 refine ⟨?_, fun id hl hk => ?_⟩
 ·rintro (q | ⟨id, q1, q2⟩)
  ·exact hb.1 q
  ·exact hb.2 id (R0 hres q2) q2
 ·simp only [Gh.view] at hk
  split at hk
  ·rename_i hid
   exact hb.2 id (R0 hres hk) hk
  ·cases hk
theorem Ao4 (h : Be n B Iq s g a w) {sl ids : List Nat} (hc : ∀ i ∈ sl, ∀ id ∈ I3 (s.cell i), id ∈ ids) (hr : ∀ i ∈ ids, ∀ id ∈ Qe (s.res i), id ∈ ids) (hw : ∀ i ∈ ids, ∀ id ∈ Abu (s.res i), id ∈ ids) :
  Be n w.heap.size (ids.filterMap g.blk) (s.view sl ids) (g.view s ids) a w := by
 have hS : ∀ b, Cv s g b → b < w.heap.size → Cv (s.view sl ids) (g.view s ids) b := fun b hb _ => Ao3 b hb h.res
 have hm : ∀ id ∈ ids, (s.view sl ids).res id = s.res id ∧ (g.view s ids).blk id = g.blk id ∧ (g.view s ids).hdr id = g.hdr id := by
  intro id hid
  have := C0.2 hid
  refine ⟨?_, ?_, rfl⟩
  ·simp [St.view, this]
  ·simp [Gh.view, this]
 refine ⟨h.size, h.defers, Nat.le_refl _, fun i => ?_, fun id => ?_, fun id id' b q1 q2 => ?_, fun id b q => ?_, fun b q => ?_⟩
 ·show Ob _ _ _ (if Hw sl i then s.cell i else .dead) _
  split
  ·rename_i hi
   exact Ob.part hS hm (hc i (C0.1 hi)) (h.cell i)
  ·trivial
 ·by_cases hid : id ∈ ids
  ·rw [(hm id hid).1]
   exact Hg.part hS hm hid (hr id hid) (hw id hid) (h.res id)
  ·have hf : Hw ids id = false := by
    cases hq : Hw ids id
    ·rfl
    ·exact absurd (C0.1 hq) hid
   have : (s.view sl ids).res id = .unborn := by simp [St.view, hf]
   rw [this]
   show (g.view s ids).blk id = none
   simp [Gh.view, hf]
 ·simp only [Gh.view] at q1 q2
  split at q1
  ·split at q2
   ·exact h.inj id id' b q1 q2
   ·cases q2
  ·cases q1
 ·simp only [Gh.view] at q
  split at q
  ·rename_i hid
   have hid := C0.1 hid
   refine ⟨(h.lt id b q).1, .inl (List.mem_filterMap.2 ⟨id, hid, q⟩), ?_⟩
   rintro (q2 | ⟨j, q2, q3⟩)
   ·exact (h.lt id b q).2.2 q2
   ·exact q2 (by rw [h.inj j id b q3 q]; exact hid)
  ·cases q
 ·rcases q with q | ⟨id, q1, q2⟩
  ·have := h.avB b q
   have := h.base
   omega
  ·exact (h.lt id b q2).1
theorem Ai2 {l m : List Nat} (h : Wj (Ga s l) m = true) : ∀ i ∈ l, ∀ id ∈ Qe (s.res i), id ∈ m :=
 fun i hi id hid => Y7.1 h id (g8 hi hid)
theorem g9 {sl : List Nat} : ∀ i ∈ sl, ∀ id ∈ I3 (s.cell i), id ∈ Wi s sl :=
 fun i hi id hid => List.mem_append_left _ (List.mem_append_left _ (Ua hi hid))
theorem Abw {nid : Nat} (h : J4 s nid m7 = true) : ∀ id ∈ K8 nid, s.res id = .unborn := by
 intro id hid
 have : nid ≤ id ∧ id < nid + 4 := by
  simp only [K8, List.mem_cons, List.not_mem_nil, or_false] at hid
  omega
 exact Abi h id this.1 this.2
theorem Asm (h : Be n B Iq s g a w) {sl ids : List Nat} {nid : Nat} {v' : St} {gv' : Gh} {w' : World} {av : AV} (hfr : ∀ id ∈ K8 nid, s.res id = .unborn)
  (hgo : Go w.heap.size (ids.filterMap g.blk) (s.view sl ids) (g.view s ids) w v' gv' w') (hR : Be n w.heap.size (ids.filterMap g.blk) v' gv' a w')
  (hav : ∀ id ∈ I3 av, id ∈ ids ++ K8 nid) (hres : ∀ i ∈ ids ++ K8 nid, ∀ id ∈ Qe (v'.res i), id ∈ ids ++ K8 nid) (hwk : ∀ i ∈ ids ++ K8 nid, ∀ id ∈ Abu (v'.res i), id ∈ ids ++ K8 nid) :
  ∃ g', Go B Iq s g w (s.lay v' (ids ++ K8 nid)) g' w' ∧ Be n B Iq (s.lay v' (ids ++ K8 nid)) g' a w' ∧ ∀ u, Ob v' gv' w' av u → Ob (s.lay v' (ids ++ K8 nid)) g' w' av u := by
 generalize hm : ids ++ K8 nid = m at hav hres hwk ⊢
 have hidm : ∀ id ∈ ids, id ∈ m := fun id q => by rw [← hm]; exact List.mem_append_left _ q
 have hmem : ∀ id ∈ m, id ∈ ids ∨ id ∈ K8 nid := fun id q => by rw [← hm] at q; exact List.mem_append.1 q
 have hin : ∀ id, Hw m id = true ↔ id ∈ m := fun id => C0
 have hout : ∀ {id}, id ∉ m → Hw m id = false := fun {id} q => by
  cases hq : Hw m id
  ·rfl
  ·exact absurd ((hin id).1 hq) q
 refine ⟨⟨fun id => if Hw m id then gv'.blk id else g.blk id, fun id => if Hw m id then gv'.hdr id else g.hdr id, g.av⟩, ?_⟩
 generalize hg' : (⟨fun id => if Hw m id then gv'.blk id else g.blk id, fun id => if Hw m id then gv'.hdr id else g.hdr id, g.av⟩ : Gh) = g'
 generalize hs' : s.lay v' m = s'
 have e1 : ∀ id ∈ m, s'.res id = v'.res id ∧ g'.blk id = gv'.blk id ∧ g'.hdr id = gv'.hdr id := by
  intro id hid
  have := (hin id).2 hid
  subst hs' hg'
  simp [St.lay, this]
 have e2 : ∀ id, id ∉ m → s'.res id = s.res id ∧ g'.blk id = g.blk id ∧ g'.hdr id = g.hdr id := by
  intro id hid
  have := hout hid
  subst hs' hg'
  simp [St.lay, this]
 have ecell : s'.cell = s.cell := by subst hs'; rfl
 have eav : g'.av = g.av := by subst hg'; rfl
 have eavv : gv'.av = (g.view s ids).av := hgo.av
 have liveBlk : ∀ id b, g.blk id = some b → (s.res id).live = true := fun id b q => R0 h.res q
 have hS2 : ∀ b, Cv v' gv' b → b < w'.heap.size → Cv s' g' b := by
  rintro b ⟨q1, q2⟩ _
  rw [eavv] at q1
  refine ⟨by rw [eav]; exact fun q => q1 (.inl q), fun id hl hk => ?_⟩
  by_cases hid : id ∈ m
  ·obtain ⟨a1, a2, a3⟩ := e1 id hid
   rw [a1] at hl
   rw [a2] at hk
   exact q2 id hl hk
  ·obtain ⟨a1, a2, a3⟩ := e2 id hid
   rw [a2] at hk
   exact q1 (.inr ⟨id, fun q => hid (hidm id q), hk⟩)
 have hS : ∀ b, Cv s g b → b < w.heap.size → Cv s' g' b ∧ w'.heap[b]? = w.heap[b]? := by
  intro b hb hlt
  obtain ⟨k1, k2⟩ := hgo.S b (Ao3 b hb h.res) hlt
  exact ⟨hS2 b k1 (Nat.lt_of_lt_of_le hlt hgo.kp.size), k2⟩
 have hI : ∀ id, Aj s g s' g' id := by
  intro id
  by_cases hid : id ∈ m
  ·obtain ⟨a1, a2, a3⟩ := e1 id hid
   rcases hmem id hid with q | q
   ·have r := hgo.ref id
    unfold Aj at r ⊢
    have hq := C0.2 q
    have v1 : (s.view sl ids).res id = s.res id := by simp [St.view, hq]
    have v2 : (g.view s ids).blk id = g.blk id := by simp [Gh.view, hq]
    rw [v1, v2] at r
    rw [a1, a2, a3]
    exact r
   ·unfold Aj
    rw [hfr id q]
    exact .inr trivial
  ·obtain ⟨a1, a2, a3⟩ := e2 id hid
   exact Aj.same a1 a2 a3
 have hKp : Kp B Iq w w' := ⟨hgo.kp.os, hgo.kp.tape, hgo.kp.output, hgo.kp.size, fun k hk hkI => by
  refine hgo.kp.block k (Nat.lt_of_lt_of_le hk h.base) (fun q => ?_)
  obtain ⟨id, q1, q2⟩ := List.mem_filterMap.1 q
  rcases (h.lt id k q2).2.1 with q3 | q3
  ·exact hkI q3
  ·omega⟩
 refine ⟨⟨hKp, hS, hI, eav⟩, ?_, fun u hu => Ob.part hS2 e1 hav hu⟩
 refine h.step h.size h.defers hgo.kp.size hS hI (fun i => .inl ⟨by rw [ecell], rfl⟩) (fun j => ?_) (fun i j b hi hj => ?_) (fun i b hi => ?_) eav
 ·by_cases hj : j ∈ m
  ·right
   rw [(e1 j hj).1]
   exact Hg.part hS2 e1 hj (hres j hj) (hwk j hj) (hR.res j)
  ·left
   obtain ⟨a1, a2, a3⟩ := e2 j hj
   refine ⟨a1, a2, a3, fun b hb => hgo.kp.block b (h.lt j b hb).1 (fun q => ?_)⟩
   obtain ⟨id, q1, q2⟩ := List.mem_filterMap.1 q
   exact hj (by rw [h.inj j id b hb q2]; exact hidm id q1)
 ·have far : ∀ i j b, i ∈ m → g'.blk i = some b → j ∉ m → g'.blk j = some b → False := by
   intro i j b him hi hjm hj
   rw [(e1 i him).2.1] at hi
   rw [(e2 j hjm).2.1] at hj
   refine (hR.lt i b hi).2.2 ?_
   rw [eavv]
   exact .inr ⟨j, fun q => hjm (hidm j q), hj⟩
  by_cases him : i ∈ m <;> by_cases hjm : j ∈ m
  ·rw [(e1 i him).2.1] at hi
   rw [(e1 j hjm).2.1] at hj
   exact hR.inj i j b hi hj
  ·exact (far i j b him hi hjm hj).elim
  ·exact (far j i b hjm hj him hi).elim
  ·rw [(e2 i him).2.1] at hi
   rw [(e2 j hjm).2.1] at hj
   exact h.inj i j b hi hj
 ·by_cases him : i ∈ m
  ·rw [(e1 i him).2.1] at hi
   obtain ⟨k1, k2, k3⟩ := hR.lt i b hi
   rw [eavv] at k3
   refine ⟨k1, ?_, fun q => k3 (.inl q)⟩
   rcases k2 with k2 | k2
   ·obtain ⟨id, q1, q2⟩ := List.mem_filterMap.1 k2
    exact (h.lt id b q2).2.1
   ·exact .inr (Nat.le_trans h.base k2)
  ·rw [(e2 i him).2.1] at hi
   obtain ⟨k1, k2⟩ := h.lt i b hi
   exact ⟨Nat.lt_of_lt_of_le k1 hgo.kp.size, k2⟩
theorem Afp {o : Oper} {m : List Nat} (h : Lz o s m = true) : (∀ i ∈ m, ∀ id ∈ Qe (s.res i), id ∈ m) ∧ (K7 o = false → ∀ i ∈ m, ∀ id ∈ Abu (s.res i), id ∈ m) := by
 simp only [Lz, Bool.and_eq_true, Bool.or_eq_true] at h
 refine ⟨Ai2 h.1, fun hl i hi id hid => ?_⟩
 rcases h.2 with q | q
 ·rw [hl] at q; cases q
 ·exact Y7.1 q id (Abv hi hid)
theorem Abx {o : Oper} : ∀ i ∈ Cx o, ∀ id ∈ I3 (s.cell i), id ∈ Qf s o := fun i hi id hid => by
 unfold Qf
 split
 ·exact g9 i hi id hid
 ·exact List.mem_append_left _ (g9 i hi id hid)
section
variable {s t : St}
theorem Wl {x : Operand} (h : ∀ i ∈ Hj [x], s.cell i = t.cell i) : s.op x = t.op x := by
 cases x with
 | tmp i => exact h i (by simp [Hj])
 | const v => rfl
 | global _ => rfl
 | func _ => rfl
theorem Afq {x : Operand} (h : s.op x = t.op x) : s.leaf x = t.leaf x := by unfold St.leaf; rw [h]
theorem Y8 {x : Operand} (h : s.op x = t.op x) : s.conc x = t.conc x := by unfold St.conc; rw [h]
theorem Ai3 {x : Operand} {id : Nat} (h : s.leaf x = some (.row id)) : ∃ i ∈ Hj [x], id ∈ I3 (s.cell i) := by
 cases x with
 | tmp i =>
  refine ⟨i, by simp [Hj], ?_⟩
  unfold St.leaf at h
  simp only [St.op] at h
  split at h
  ·rename_i l hl
   cases h
   rw [hl]
   simp [I3, Abt, Vl.ls, Qd, U2]
  ·cases h
 | const v =>
  unfold St.leaf at h
  simp only [St.op] at h
  split at h
  ·rename_i l hl
   cases h
   unfold Aah at hl
   split at hl
   ·split at hl <;> cases hl
   ·cases hl
   ·cases hl
  ·cases h
 | global _ => cases h
 | func _ => cases h
theorem Wm {x : Operand} (h : s.leaf x = t.leaf x) (hr : ∀ id, s.leaf x = some (.row id) → s.res id = t.res id) : Td s x = Td t x := by
 unfold Td
 rw [← h]
 split
 ·rename_i id hl
  rw [hr id hl]
 ·rfl
theorem Amo {x : Operand} (h : s.leaf x = t.leaf x) (hr : ∀ id, s.leaf x = some (.row id) → s.res id = t.res id) : (s.leaf x).bind s.sl = (t.leaf x).bind t.sl := by
 rw [← h]
 cases hl : s.leaf x with
 | none => rfl
 | some l =>
  cases l with
  | row id => simp only [Option.bind_some, St.sl]; rw [hr id hl]
  | _ => rfl
theorem Aed {T : TypeId} {x y : Operand} (h : s.leaf x = t.leaf x) (hr : ∀ id, s.leaf x = some (.row id) → s.res id = t.res id) (hy : s.conc y = t.conc y) : Ou P s T x y = Ou P t T x y := by
 unfold Ou
 rw [← h, ← hy]
 split
 ·split
  ·rename_i id _ _ _ hl _
   rw [hr _ hl]
  ·rfl
 ·rfl
theorem Ai4 {T : TypeId} {x : Operand} (h : s.leaf x = t.leaf x) (hr : ∀ id, s.leaf x = some (.row id) → s.res id = t.res id) : Yx P s T x = Yx P t T x := by
 unfold Yx
 rw [← h]
 split
 ·split
  ·rename_i id hl
   rw [hr _ hl]
  ·rfl
 ·rfl
end
theorem Wn {s t : St} {T : TypeId} {x y : Operand} (h : s.leaf x = t.leaf x) (hr : ∀ id, s.leaf x = some (.row id) → s.res id = t.res id) (hy : s.conc y = t.conc y) : Hi P s T x y = Hi P t T x y := by
 unfold Hi
 rw [Amo h hr, hy]
theorem Ak8 {s t : St} {T : TypeId} {x : Operand} (h : s.leaf x = t.leaf x) (hr : ∀ id, s.leaf x = some (.row id) → s.res id = t.res id) (hy : s.conc x = t.conc x) : Afc P s T x = Afc P t T x := by
 unfold Afc
 rw [Amo h hr, hy]
theorem Ai5 {s t : St} {X : Option (List Bool × Lf)} {av : AV} {v' : St} (e : Iy (lfC t X) = some (av, v')) : v' = t ∧ Iy (lfC s X) = some (av, s) := by
 cases X with
 | none => cases e
 | some p =>
  simp only [lfC, Iy] at e ⊢
  split at e <;> cases e
  rename_i hq
  exact ⟨rfl, by rw [if_pos hq]⟩
theorem Aat {s t : St} {X : Option Value} {av : AV} {v' : St} (e : Iy (v0 t X) = some (av, v')) : v' = t ∧ Iy (v0 s X) = some (av, s) := by
 cases X with
 | none => cases e
 | some p =>
  simp only [v0, Iy] at e ⊢
  split at e <;> cases e
  rename_i hq
  exact ⟨rfl, by rw [if_pos hq]⟩
theorem Wo {s t : St} : ∀ {l : List Operand}, (∀ y ∈ l, s.conc y = t.conc y) → Py s l = Py t l
 | [], _ => rfl
 | y :: r, h => by
  simp only [Py]
  rw [h y (by simp), Wo (fun z hz => h z (by simp [hz]))]
theorem Aee {s t : St} {T : TypeId} {x : Operand} (h : s.leaf x = t.leaf x) (hr : ∀ id, s.leaf x = some (.row id) → s.res id = t.res id) : Ox P s T x = Ox P t T x := by
 unfold Ox
 rw [← h]
 split
 ·rename_i hl
  rw [hr _ hl]
 ·rfl
theorem Ak9 {sigs : Tb} {nid : Nat} {o : Oper} {t v' : St} {av : AV} (hl : K7 o = true) (hc : ∀ i ∈ Cx o, t.cell i = s.cell i) (hr : ∀ i ∈ Cx o, ∀ id ∈ I3 (t.cell i), t.res id = s.res id)
  (e : Oz P sigs t nid o = some (av, v')) : v' = t ∧ Oz P sigs s nid o = some (av, s) := by
 obtain ⟨dst, op, type, pos, after, guard⟩ := o
 cases op <;> simp only [K7] at hl <;> first | (cases hl; done) | skip
 case move x =>
  have hx : t.op x = s.op x := Wl (fun i hi => hc i (by simpa [Cx, Op.operands] using hi))
  simp only [Bool.not_eq_true'] at hl
  simp only [Oz, J6, Wg, Oy, Rw, hl, avS, Iy, K6] at e ⊢
  cases e
  exact ⟨rfl, by rw [hx]; rfl⟩
 case assign x =>
  have hx : t.op x = s.op x := Wl (fun i hi => hc i (by simpa [Cx, Op.operands] using hi))
  simp only [Bool.not_eq_true'] at hl
  simp only [Oz, J6, Wg, Oy, Rw, hl, avS, Iy, K6] at e ⊢
  cases e
  exact ⟨rfl, by rw [hx]; rfl⟩
 case indexAddr T x y =>
  have hs1 : Hj [x] ⊆ Cx ⟨dst, .indexAddr T x y, type, pos, after, guard⟩ := fun i hi => by
   cases x <;> simp [Hj, Cx, Op.operands] at hi ⊢
   exact .inl hi
  have hs2 : Hj [y] ⊆ Cx ⟨dst, .indexAddr T x y, type, pos, after, guard⟩ := fun i hi => by
   cases x <;> cases y <;> simp [Hj, Cx, Op.operands] at hi ⊢ <;> first | exact hi | exact .inr hi
  have hx := Afq (Wl (s := t) (t := s) (x := x) (fun i hi => hc i (hs1 hi)))
  have hy := Y8 (Wl (s := t) (t := s) (x := y) (fun i hi => hc i (hs2 hi)))
  have hrr : ∀ id, t.leaf x = some (.row id) → t.res id = s.res id := fun id hid => by
   obtain ⟨i, h1, h2⟩ := Ai3 hid
   exact hr i (hs1 h1) id h2
  simp only [Oz, J6, Wg, Oy] at e ⊢
  rw [Wm hx hrr, Aed hx hrr hy, Wn hx hrr hy] at e
  split at e
  ·rename_i hq
   rw [if_pos hq]
   exact Ai5 e
  ·rename_i hq
   rw [if_neg hq]
   exact Ai5 e
 case call c =>
  obtain ⟨callee, args, argTypes⟩ := c
  have hcal : callee = .builtin .len := by
   split at hl
   ·rename_i hq; exact hq
   ·cases hl
  subst hcal
  simp only [Oz, J6, Wg, Oy] at e ⊢
  split at e
  ·rename_i x T ha ht
   have ha' : args = #[x] := by apply Array.toList_inj.1; simpa using ha
   subst ha'
   have hs1 : Hj [x] ⊆ Cx ⟨dst, .call ⟨.builtin .len, #[x], argTypes⟩, type, pos, after, guard⟩ := fun i hi => by
    cases x <;> simp [Hj, Cx, Op.operands, Call.operands] at hi ⊢
    exact hi
   have hop := Wl (s := t) (t := s) (x := x) (fun i hi => hc i (hs1 hi))
   have hx := Afq hop
   have hrr : ∀ id, t.leaf x = some (.row id) → t.res id = s.res id := fun id hid => by
    obtain ⟨i, h1, h2⟩ := Ai3 hid
    exact hr i (hs1 h1) id h2
   have hcc : Ic P t ⟨dst, .call ⟨.builtin .len, #[x], argTypes⟩, type, pos, after, guard⟩ = Ic P s ⟨dst, .call ⟨.builtin .len, #[x], argTypes⟩, type, pos, after, guard⟩ := by
    have hcx := Y8 hop
    unfold Ic
    have e1 : ∀ y ∈ (Op.call ⟨.builtin .len, #[x], argTypes⟩).operands.toList, t.conc y = s.conc y := fun y hy => by
     simp [Op.operands, Call.operands] at hy
     rw [hy]; exact hcx
    rw [Wo e1]
    split
    ·have : execOp (fun x => (t.conc x).getD undef) ⟨dst, .call ⟨.builtin .len, #[x], argTypes⟩, type, pos, after, guard⟩ = execOp (fun x => (s.conc x).getD undef) ⟨dst, .call ⟨.builtin .len, #[x], argTypes⟩, type, pos, after, guard⟩ :=
      execOp_congr _ (fun cs b q => by cases q) (fun y hy => by show (t.conc y).getD undef = (s.conc y).getD undef; rw [e1 y (Array.mem_toList_iff.2 hy)])
     rw [this]
    ·rfl
   split at e
   ·rename_i hsl
    rw [if_pos hsl]
    rw [Wm hx hrr, Ai4 hx hrr, Ak8 hx hrr (Y8 hop)] at e
    split at e
    ·rename_i hq
     rw [if_pos hq]
     exact Aat e
    ·rename_i hq
     rw [if_neg hq]
     exact Aat e
   ·rename_i hsl
    rw [if_neg hsl]
    rw [hcc, Aee hx hrr] at e
    split at e
    ·rename_i hq
     rw [if_pos hq]
     exact Aat e
    ·rename_i hq
     rw [if_neg hq]
     exact Aat e
  ·cases e
theorem Ao5 {sigs : Tb} (hs : At P sigs) (h : Be n B Iq s g a w) {nid : Nat} {o : Oper} {av : AV} {v' : St} (e : Wk P sigs s nid o = some (av, v')) :
  Jx P n B Iq s g a w o av (if K7 o then s else s.lay v' (Qf s o ++ K8 nid)) := by
 unfold Wk at e
 dsimp only at e
 split at e
 ·rename_i hfr
  split at e
  ·rename_i hcl
   obtain ⟨p, e1, e⟩ := Option.bind_eq_some_iff.1 e
   split at e
   ·rename_i h1
    split at e <;> cases e
    rename_i h2
    cases hlt : K7 o with
    | true =>
     refine Rz hs h (Ak9 (t := s.view (Cx o) (Qf s o)) hlt (fun i hi => ?_) (fun i hi id hid => ?_) e1).2
     ·simp [St.view, C0.2 hi]
     ·have : (s.view (Cx o) (Qf s o)).cell i = s.cell i := by simp [St.view, C0.2 hi]
      rw [this] at hid
      simp [St.view, C0.2 (Abx i hi id hid)]
    | false =>
     have c1 := Afp hcl
     have c2 := Afp h2
     have hV := Ao4 h (sl := Cx o) (ids := Qf s o) Abx c1.1 (c1.2 hlt)
     intro K Q hK
     refine Rz hs hV e1 K Q fun v gv' w' k1 k2 k3 => ?_
     obtain ⟨g', q1, q2, q3⟩ := Asm h (Abw hfr) k1 k2 (Y7.1 h1) c2.1 (c2.2 hlt)
     exact hK v g' w' q1 q2 (q3 v k3)
   ·cases e
  ·cases e
 ·cases e
end
end Go.Proofs.YteaoabdlcefkhaaGreat.R

