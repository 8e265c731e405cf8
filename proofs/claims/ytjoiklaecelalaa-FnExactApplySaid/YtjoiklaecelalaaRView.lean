/- One operation, told of that part of the state that it looks at. No condition. -/
import Derived.Test.YtjoiklaecelalaaRInl
namespace Go.Proofs.Ytjoiklaecelalaa.R
open Go Go.RowKit
set_option linter.unusedVariables false
set_option linter.unusedSimpArgs false

def mentLf : Lf → List Nat
  | .row id => [id]
  | .ptr id _ => [id]
  | .rp id _ _ => [id]
  | .sp id => [id]
  | _ => []
def mentLs : List Lf → List Nat
  | [] => []
  | l :: r => mentLf l ++ mentLs r
def mentVl (v : Vl) : List Nat := mentLs v.ls
def mentVls : List Vl → List Nat
  | [] => []
  | v :: r => mentVl v ++ mentVls r
def mentAV : AV → List Nat
  | .dead => []
  | .vl v => mentVl v
  | .tp vs => mentVls vs
  | .fn _ ls => mentLs ls
def mentRes : Res → List Nat
  | .box _ ls => mentLs ls
  | _ => []
/-- The row that is last in a row of rows. -/
def wkRes : Res → List Nat
  | .last _ _ _ _ j => [j]
  | _ => []
def slotsIn : List Operand → List Nat
  | [] => []
  | .tmp t :: r => t :: slotsIn r
  | _ :: r => slotsIn r
def opSlots (o : Oper) : List Nat := slotsIn o.op.operands.toList
def memB (l : List Nat) (i : Nat) : Bool := match l with
  | [] => false
  | j :: r => Nat.beq j i || memB r i
theorem memB_iff {l : List Nat} {i : Nat} : memB l i = true ↔ i ∈ l := by
  induction l with
  | nil => simp [memB]
  | cons j r ih =>
    simp only [memB, Bool.or_eq_true, ih, List.mem_cons, Nat.beq_eq]
    constructor
    · rintro (h | h)
      · exact .inl h.symm
      · exact .inr h
    · rintro (h | h)
      · exact .inl h.symm
      · exact .inr h
def cellsMent (s : St) : List Nat → List Nat
  | [] => []
  | i :: r => mentAV (s.cell i) ++ cellsMent s r
def resMent (s : St) : List Nat → List Nat
  | [] => []
  | i :: r => mentRes (s.res i) ++ resMent s r
/-- What is looked at: what the slots name, and what stands in it. -/
def idsOf (s : St) (sl : List Nat) : List Nat :=
  let l0 := cellsMent s sl
  let l1 := l0 ++ resMent s l0
  l1 ++ resMent s l1
def wkMent (s : St) : List Nat → List Nat
  | [] => []
  | i :: r => wkRes (s.res i) ++ wkMent s r
/-- It looks at no row's inside. -/
def lightO (o : Oper) : Bool := match o.op with
  | .move x => !isNil x
  | .assign x => !isNil x
  | .indexAddr _ _ _ => true
  | .call c => (match c.callee with
    | .builtin .len => true
    | _ => false)
  | _ => false
def idsO (s : St) (o : Oper) : List Nat := if lightO o then idsOf s (opSlots o) else idsOf s (opSlots o) ++ wkMent s (idsOf s (opSlots o))
def allIn (l m : List Nat) : Bool := match l with
  | [] => true
  | i :: r => memB m i && allIn r m
theorem allIn_iff {l m : List Nat} : allIn l m = true ↔ ∀ i ∈ l, i ∈ m := by
  induction l with
  | nil => simp [allIn]
  | cons j r ih => simp [allIn, memB_iff, ih]
def wide : Nat := 4
def span (nid : Nat) : List Nat := [nid, nid + 1, nid + 2, nid + 3]
def St.view (s : St) (sl ids : List Nat) : St := ⟨fun i => if memB sl i then s.cell i else .dead, fun id => if memB ids id then s.res id else .unborn⟩
/-- The part that was looked at, laid back. -/
def St.lay (s v : St) (m : List Nat) : St := ⟨s.cell, fun id => if memB m id then v.res id else s.res id⟩
def closedB (o : Oper) (s : St) (m : List Nat) : Bool := allIn (resMent s m) m && (lightO o || allIn (wkMent s m) m)
def stepV (P : Program) (sigs : Tb) (s : St) (nid : Nat) (o : Oper) : Option (AV × St) :=
  let sl := opSlots o
  let ids := idsO s o
  if freshB s nid wide then (if closedB o s ids then (stepD P sigs (s.view sl ids) nid o).bind fun p =>
    if allIn (mentAV p.1) (ids ++ span nid) then (if closedB o p.2 (ids ++ span nid) then some p else none) else none
  else none) else none
section
variable {P : Program} {n B : Nat} {Iq : List Nat} {s : St} {g : Gh} {a : Act} {w : World}
theorem live_of_blk (h : ∀ id, ResR s g w id (s.res id)) {id b : Nat} (hb : g.blk id = some b) : (s.res id).live = true := by
  have r := h id
  cases hr : s.res id with
  | box T ls => rfl
  | row e t xs => rfl
  | unborn => rw [hr] at r; exact absurd (hb.symm.trans r) (by simp)
  | dead => rw [hr] at r; exact absurd (hb.symm.trans r) (by simp)
  | frozen t xs => rw [hr] at r; exact absurd (hb.symm.trans r.2) (by simp)
  | last _ _ _ _ _ => rfl
  | map _ _ => rfl
  | iter _ _ _ _ => rfl
/-- What is told of one part is told of another state that has that part. -/
theorem LfR.part {s s' : St} {g g' : Gh} {w : World} {m : List Nat} (hS : ∀ b, Sof s g b → b < w.heap.size → Sof s' g' b) (hm : ∀ id ∈ m, s'.res id = s.res id ∧ g'.blk id = g.blk id ∧ g'.hdr id = g.hdr id) :
    ∀ {l : Lf} {u : Value}, (∀ id ∈ mentLf l, id ∈ m) → LfR s g w l u → LfR s' g' w l u
  | .c _, _, _, h => h
  | .sl _ _, _, _, h => Ty.K_keep (fun b hb hl => ⟨hS b hb hl, rfl⟩) h
  | .row id, u, hi, h => by
    obtain ⟨e1, e2, e3⟩ := hm id (hi id (by simp [mentLf]))
    simp only [LfR] at h ⊢
    rw [e1, e3]
    exact h
  | .ptr id off, u, hi, h => by
    obtain ⟨e1, e2, e3⟩ := hm id (hi id (by simp [mentLf]))
    simp only [LfR] at h ⊢
    rw [e1, e2]
    exact h
  | .ep t xs i off, u, _, ⟨ad, cs, h1, h2, h3, h4, h5⟩ => ⟨ad, cs, h1, hS _ h2 h3, h3, Ty.K_keep (fun b hb hl => ⟨hS b hb hl, rfl⟩) h4, h5⟩
  | .rp id i off, u, hi, h => by
    obtain ⟨e1, e2, e3⟩ := hm id (hi id (by simp [mentLf]))
    simp only [LfR] at h ⊢
    rw [e1, e2]
    exact h
  | .sp id, u, hi, h => by
    obtain ⟨e1, e2, e3⟩ := hm id (hi id (by simp [mentLf]))
    simp only [LfR] at h ⊢
    rw [e1, e2]
    exact h
section
variable {s' : St} {g' : Gh} {m : List Nat} (hS : ∀ b, Sof s g b → b < w.heap.size → Sof s' g' b) (hm : ∀ id ∈ m, s'.res id = s.res id ∧ g'.blk id = g.blk id ∧ g'.hdr id = g.hdr id)
 include hS hm
theorem LsR.part : ∀ {ls : List Lf} {cs : List Value}, (∀ id ∈ mentLs ls, id ∈ m) → LsR s g w ls cs → LsR s' g' w ls cs
  | [], [], _, _ => trivial
  | [], _ :: _, _, h => h.elim
  | _ :: _, [], _, h => h.elim
  | l :: ls, _ :: _, hi, h => ⟨⟨LfR.part hS hm (fun id q => hi id (by simp [mentLs, q])) h.1.1, h.1.2⟩, LsR.part (fun id q => hi id (by simp [mentLs, q])) h.2⟩
theorem VlR.part {v : Vl} {u : Value} (hi : ∀ id ∈ mentVl v, id ∈ m) (h : VlR s g w v u) : VlR s' g' w v u := by
  cases v with
  | lf l => exact ⟨LfR.part hS hm (fun id q => hi id (by simp [mentVl, Vl.ls, mentLs, q])) h.1, h.2⟩
  | ag ls =>
    obtain ⟨cs, e, hL⟩ := h
    exact ⟨cs, e, LsR.part hS hm hi hL⟩
theorem AVR.part {v : AV} {u : Value} (hi : ∀ id ∈ mentAV v, id ∈ m) (h : AVR s g w v u) : AVR s' g' w v u := by
  cases v with
  | dead => trivial
  | vl v => exact VlR.part hS hm hi h
  | tp vs =>
    obtain ⟨us, h1, h2, h3⟩ := h
    refine ⟨us, h1, h2, fun j l hl => ?_⟩
    obtain ⟨v, e1, e2⟩ := h3 j l hl
    refine ⟨v, e1, VlR.part hS hm (fun id q => hi id ?_) e2⟩
    have hmem := List.mem_of_getElem? hl
    clear h1 h2 h3 hl e1 e2 hi
    induction vs with
    | nil => cases hmem
    | cons x r ih =>
      rcases List.mem_cons.1 hmem with rfl | hmem
      · simp [mentAV, mentVls, q]
      · have := ih hmem
        simp only [mentAV, mentVls, List.mem_append] at this ⊢
        exact .inr this
  | fn f ls =>
    obtain ⟨cs, h1, h2⟩ := h
    exact ⟨cs, h1, LsR.part hS hm hi h2⟩
theorem ResR.part {id : Nat} (hid : id ∈ m) {r : Res} (hi : ∀ j ∈ mentRes r, j ∈ m) (hwk : ∀ j ∈ wkRes r, j ∈ m) (h : ResR s g w id r) : ResR s' g' w id r := by
  obtain ⟨e1, e2, e3⟩ := hm id hid
  cases r with
  | unborn => exact e2.trans h
  | dead => exact e2.trans h
  | box T ls =>
    obtain ⟨b, cs, h1, h2, h3⟩ := h
    exact ⟨b, cs, e2.trans h1, h2, LsR.part hS hm hi h3⟩
  | row e t xs =>
    obtain ⟨cs, h1, h2, h3⟩ := h
    exact ⟨cs, by rw [e3]; exact h1, h2.imp hS, by rw [e2, e3]; exact h3⟩
  | frozen t xs =>
    obtain ⟨h1, h2⟩ := h
    exact ⟨by rw [e3]; exact Ty.K_keep (fun b hb hl => ⟨hS b hb hl, rfl⟩) h1, e2.trans h2⟩
  | last e t xs c j =>
    obtain ⟨cs, h1, h2, h3, h4⟩ := h
    obtain ⟨q1, q2, q3⟩ := hm j (hwk j (by simp [wkRes]))
    refine ⟨cs, by rw [e3]; exact h1, h2.imp hS, by rw [e2, e3]; exact h3, fun u hc hu => ?_⟩
    rw [q1, q3]
    exact h4 u hc hu
  | map t xs =>
    obtain ⟨b, es, clock, h1, h2, h3⟩ := h
    exact ⟨b, es, clock, e2.trans h1, e3.trans h2, h3⟩
  | iter t xs seen cur =>
    obtain ⟨b, r, es, clock, since, c0, sn, h1, h2, h3, h4, h5, h6⟩ := h
    exact ⟨b, r, es, clock, since, c0, sn, e2.trans h1, e3.trans h2, h3, hS b h4 h5, h5, h6⟩
end
theorem wkMent_mem {i id : Nat} : ∀ {l : List Nat}, i ∈ l → id ∈ wkRes (s.res i) → id ∈ wkMent s l
  | j :: r, h, q => by
    rcases List.mem_cons.1 h with rfl | h
    · exact List.mem_append_left _ q
    · exact List.mem_append_right _ (wkMent_mem h q)
def Gh.view (s : St) (g : Gh) (ids : List Nat) : Gh := ⟨fun id => if memB ids id then g.blk id else none, g.hdr, fun b => g.av b ∨ ∃ id, id ∉ ids ∧ g.blk id = some b⟩
theorem cellsMent_mem {i id : Nat} : ∀ {sl : List Nat}, i ∈ sl → id ∈ mentAV (s.cell i) → id ∈ cellsMent s sl
  | j :: r, h, q => by
    rcases List.mem_cons.1 h with rfl | h
    · exact List.mem_append_left _ q
    · exact List.mem_append_right _ (cellsMent_mem h q)
theorem resMent_mem {i id : Nat} : ∀ {l : List Nat}, i ∈ l → id ∈ mentRes (s.res i) → id ∈ resMent s l
  | j :: r, h, q => by
    rcases List.mem_cons.1 h with rfl | h
    · exact List.mem_append_left _ q
    · exact List.mem_append_right _ (resMent_mem h q)
theorem view_S {sl ids : List Nat} (b : Nat) (hb : Sof s g b) (hres : ∀ id, ResR s g w id (s.res id)) : Sof (s.view sl ids) (g.view s ids) b := by
  refine ⟨?_, fun id hl hk => ?_⟩
  · rintro (q | ⟨id, q1, q2⟩)
    · exact hb.1 q
    · exact hb.2 id (live_of_blk hres q2) q2
  · simp only [Gh.view] at hk
    split at hk
    · rename_i hid
      exact hb.2 id (live_of_blk hres hk) hk
    · cases hk
theorem view_Rel (h : Rel n B Iq s g a w) {sl ids : List Nat} (hc : ∀ i ∈ sl, ∀ id ∈ mentAV (s.cell i), id ∈ ids) (hr : ∀ i ∈ ids, ∀ id ∈ mentRes (s.res i), id ∈ ids) (hw : ∀ i ∈ ids, ∀ id ∈ wkRes (s.res i), id ∈ ids) :
    Rel n w.heap.size (ids.filterMap g.blk) (s.view sl ids) (g.view s ids) a w := by
  have hS : ∀ b, Sof s g b → b < w.heap.size → Sof (s.view sl ids) (g.view s ids) b := fun b hb _ => view_S b hb h.res
  have hm : ∀ id ∈ ids, (s.view sl ids).res id = s.res id ∧ (g.view s ids).blk id = g.blk id ∧ (g.view s ids).hdr id = g.hdr id := by
    intro id hid
    have := memB_iff.2 hid
    refine ⟨?_, ?_, rfl⟩
    · simp [St.view, this]
    · simp [Gh.view, this]
  refine ⟨h.size, h.defers, Nat.le_refl _, fun i => ?_, fun id => ?_, fun id id' b q1 q2 => ?_, fun id b q => ?_, fun b q => ?_⟩
  · show AVR _ _ _ (if memB sl i then s.cell i else .dead) _
    split
    · rename_i hi
      exact AVR.part hS hm (hc i (memB_iff.1 hi)) (h.cell i)
    · trivial
  · by_cases hid : id ∈ ids
    · rw [(hm id hid).1]
      exact ResR.part hS hm hid (hr id hid) (hw id hid) (h.res id)
    · have hf : memB ids id = false := by
        cases hq : memB ids id
        · rfl
        · exact absurd (memB_iff.1 hq) hid
      have : (s.view sl ids).res id = .unborn := by simp [St.view, hf]
      rw [this]
      show (g.view s ids).blk id = none
      simp [Gh.view, hf]
  · simp only [Gh.view] at q1 q2
    split at q1
    · split at q2
      · exact h.inj id id' b q1 q2
      · cases q2
    · cases q1
  · simp only [Gh.view] at q
    split at q
    · rename_i hid
      have hid := memB_iff.1 hid
      refine ⟨(h.lt id b q).1, .inl (List.mem_filterMap.2 ⟨id, hid, q⟩), ?_⟩
      rintro (q2 | ⟨j, q2, q3⟩)
      · exact (h.lt id b q).2.2 q2
      · exact q2 (by rw [h.inj j id b q3 q]; exact hid)
    · cases q
  · rcases q with q | ⟨id, q1, q2⟩
    · have := h.avB b q
      have := h.base
      omega
    · exact (h.lt id b q2).1
theorem resMent_sub {l m : List Nat} (h : allIn (resMent s l) m = true) : ∀ i ∈ l, ∀ id ∈ mentRes (s.res i), id ∈ m :=
  fun i hi id hid => allIn_iff.1 h id (resMent_mem hi hid)
theorem idsOf_cells {sl : List Nat} : ∀ i ∈ sl, ∀ id ∈ mentAV (s.cell i), id ∈ idsOf s sl :=
  fun i hi id hid => List.mem_append_left _ (List.mem_append_left _ (cellsMent_mem hi hid))
theorem span_fresh {nid : Nat} (h : freshB s nid wide = true) : ∀ id ∈ span nid, s.res id = .unborn := by
  intro id hid
  have : nid ≤ id ∧ id < nid + 4 := by
    simp only [span, List.mem_cons, List.not_mem_nil, or_false] at hid
    omega
  exact fresh_of h id this.1 this.2
/-- The operation on the part is the operation. -/
theorem lay_ok (h : Rel n B Iq s g a w) {sl ids : List Nat} {nid : Nat} {v' : St} {gv' : Gh} {w' : World} {av : AV} (hfr : ∀ id ∈ span nid, s.res id = .unborn)
    (hgo : Go w.heap.size (ids.filterMap g.blk) (s.view sl ids) (g.view s ids) w v' gv' w') (hR : Rel n w.heap.size (ids.filterMap g.blk) v' gv' a w')
    (hav : ∀ id ∈ mentAV av, id ∈ ids ++ span nid) (hres : ∀ i ∈ ids ++ span nid, ∀ id ∈ mentRes (v'.res i), id ∈ ids ++ span nid) (hwk : ∀ i ∈ ids ++ span nid, ∀ id ∈ wkRes (v'.res i), id ∈ ids ++ span nid) :
    ∃ g', Go B Iq s g w (s.lay v' (ids ++ span nid)) g' w' ∧ Rel n B Iq (s.lay v' (ids ++ span nid)) g' a w' ∧ ∀ u, AVR v' gv' w' av u → AVR (s.lay v' (ids ++ span nid)) g' w' av u := by
  generalize hm : ids ++ span nid = m at hav hres hwk ⊢
  have hidm : ∀ id ∈ ids, id ∈ m := fun id q => by rw [← hm]; exact List.mem_append_left _ q
  have hmem : ∀ id ∈ m, id ∈ ids ∨ id ∈ span nid := fun id q => by rw [← hm] at q; exact List.mem_append.1 q
  have hin : ∀ id, memB m id = true ↔ id ∈ m := fun id => memB_iff
  have hout : ∀ {id}, id ∉ m → memB m id = false := fun {id} q => by
    cases hq : memB m id
    · rfl
    · exact absurd ((hin id).1 hq) q
  refine ⟨⟨fun id => if memB m id then gv'.blk id else g.blk id, fun id => if memB m id then gv'.hdr id else g.hdr id, g.av⟩, ?_⟩
  generalize hg' : (⟨fun id => if memB m id then gv'.blk id else g.blk id, fun id => if memB m id then gv'.hdr id else g.hdr id, g.av⟩ : Gh) = g'
  generalize hs' : s.lay v' m = s'
  have e1 : ∀ id ∈ m, s'.res id = v'.res id ∧ g'.blk id = gv'.blk id ∧ g'.hdr id = gv'.hdr id := by
    intro id hid
    have := (hin id).2 hid
    subst hs' hg'
    simp [St.lay, this]
  have e2 : ∀ id, id ∉ m → s'.res id = s.res id ∧ g'.blk id = g.blk id ∧ g'.hdr id = g.hdr id := by
    intro id hid
    have := hout hid
    subst hs' hg'
    simp [St.lay, this]
  have ecell : s'.cell = s.cell := by subst hs'; rfl
  have eav : g'.av = g.av := by subst hg'; rfl
  have eavv : gv'.av = (g.view s ids).av := hgo.av
  have liveBlk : ∀ id b, g.blk id = some b → (s.res id).live = true := fun id b q => live_of_blk h.res q
  have hS2 : ∀ b, Sof v' gv' b → b < w'.heap.size → Sof s' g' b := by
    rintro b ⟨q1, q2⟩ _
    rw [eavv] at q1
    refine ⟨by rw [eav]; exact fun q => q1 (.inl q), fun id hl hk => ?_⟩
    by_cases hid : id ∈ m
    · obtain ⟨a1, a2, a3⟩ := e1 id hid
      rw [a1] at hl
      rw [a2] at hk
      exact q2 id hl hk
    · obtain ⟨a1, a2, a3⟩ := e2 id hid
      rw [a2] at hk
      exact q1 (.inr ⟨id, fun q => hid (hidm id q), hk⟩)
  have hS : ∀ b, Sof s g b → b < w.heap.size → Sof s' g' b ∧ w'.heap[b]? = w.heap[b]? := by
    intro b hb hlt
    obtain ⟨k1, k2⟩ := hgo.S b (view_S b hb h.res) hlt
    exact ⟨hS2 b k1 (Nat.lt_of_lt_of_le hlt hgo.kp.size), k2⟩
  have hI : ∀ id, RefOk s g s' g' id := by
    intro id
    by_cases hid : id ∈ m
    · obtain ⟨a1, a2, a3⟩ := e1 id hid
      rcases hmem id hid with q | q
      · have r := hgo.ref id
        unfold RefOk at r ⊢
        have hq := memB_iff.2 q
        have v1 : (s.view sl ids).res id = s.res id := by simp [St.view, hq]
        have v2 : (g.view s ids).blk id = g.blk id := by simp [Gh.view, hq]
        rw [v1, v2] at r
        rw [a1, a2, a3]
        exact r
      · unfold RefOk
        rw [hfr id q]
        exact .inr trivial
    · obtain ⟨a1, a2, a3⟩ := e2 id hid
      exact RefOk.same a1 a2 a3
  have hKp : Kp B Iq w w' := ⟨hgo.kp.os, hgo.kp.tape, hgo.kp.output, hgo.kp.size, fun k hk hkI => by
    refine hgo.kp.block k (Nat.lt_of_lt_of_le hk h.base) (fun q => ?_)
    obtain ⟨id, q1, q2⟩ := List.mem_filterMap.1 q
    rcases (h.lt id k q2).2.1 with q3 | q3
    · exact hkI q3
    · omega⟩
  refine ⟨⟨hKp, hS, hI, eav⟩, ?_, fun u hu => AVR.part hS2 e1 hav hu⟩
  refine h.step h.size h.defers hgo.kp.size hS hI (fun i => .inl ⟨by rw [ecell], rfl⟩) (fun j => ?_) (fun i j b hi hj => ?_) (fun i b hi => ?_) eav
  · by_cases hj : j ∈ m
    · right
      rw [(e1 j hj).1]
      exact ResR.part hS2 e1 hj (hres j hj) (hwk j hj) (hR.res j)
    · left
      obtain ⟨a1, a2, a3⟩ := e2 j hj
      refine ⟨a1, a2, a3, fun b hb => hgo.kp.block b (h.lt j b hb).1 (fun q => ?_)⟩
      obtain ⟨id, q1, q2⟩ := List.mem_filterMap.1 q
      exact hj (by rw [h.inj j id b hb q2]; exact hidm id q1)
  · have far : ∀ i j b, i ∈ m → g'.blk i = some b → j ∉ m → g'.blk j = some b → False := by
      intro i j b him hi hjm hj
      rw [(e1 i him).2.1] at hi
      rw [(e2 j hjm).2.1] at hj
      refine (hR.lt i b hi).2.2 ?_
      rw [eavv]
      exact .inr ⟨j, fun q => hjm (hidm j q), hj⟩
    by_cases him : i ∈ m <;> by_cases hjm : j ∈ m
    · rw [(e1 i him).2.1] at hi
      rw [(e1 j hjm).2.1] at hj
      exact hR.inj i j b hi hj
    · exact (far i j b him hi hjm hj).elim
    · exact (far j i b hjm hj him hi).elim
    · rw [(e2 i him).2.1] at hi
      rw [(e2 j hjm).2.1] at hj
      exact h.inj i j b hi hj
  · by_cases him : i ∈ m
    · rw [(e1 i him).2.1] at hi
      obtain ⟨k1, k2, k3⟩ := hR.lt i b hi
      rw [eavv] at k3
      refine ⟨k1, ?_, fun q => k3 (.inl q)⟩
      rcases k2 with k2 | k2
      · obtain ⟨id, q1, q2⟩ := List.mem_filterMap.1 k2
        exact (h.lt id b q2).2.1
      · exact .inr (Nat.le_trans h.base k2)
    · rw [(e2 i him).2.1] at hi
      obtain ⟨k1, k2⟩ := h.lt i b hi
      exact ⟨Nat.lt_of_lt_of_le k1 hgo.kp.size, k2⟩
theorem closed_of {o : Oper} {m : List Nat} (h : closedB o s m = true) : (∀ i ∈ m, ∀ id ∈ mentRes (s.res i), id ∈ m) ∧ (lightO o = false → ∀ i ∈ m, ∀ id ∈ wkRes (s.res i), id ∈ m) := by
  simp only [closedB, Bool.and_eq_true, Bool.or_eq_true] at h
  refine ⟨resMent_sub h.1, fun hl i hi id hid => ?_⟩
  rcases h.2 with q | q
  · rw [hl] at q; cases q
  · exact allIn_iff.1 q id (wkMent_mem hi hid)
/-- A light operation, told of the part, is told of the whole. -/
theorem idsO_cells {o : Oper} : ∀ i ∈ opSlots o, ∀ id ∈ mentAV (s.cell i), id ∈ idsO s o := fun i hi id hid => by
  unfold idsO
  split
  · exact idsOf_cells i hi id hid
  · exact List.mem_append_left _ (idsOf_cells i hi id hid)
section
variable {s t : St}
theorem op_cong {x : Operand} (h : ∀ i ∈ slotsIn [x], s.cell i = t.cell i) : s.op x = t.op x := by
  cases x with
  | tmp i => exact h i (by simp [slotsIn])
  | const v => rfl
  | global _ => rfl
  | func _ => rfl
theorem leaf_cong {x : Operand} (h : s.op x = t.op x) : s.leaf x = t.leaf x := by unfold St.leaf; rw [h]
theorem conc_cong {x : Operand} (h : s.op x = t.op x) : s.conc x = t.conc x := by unfold St.conc; rw [h]
theorem row_ment {x : Operand} {id : Nat} (h : s.leaf x = some (.row id)) : ∃ i ∈ slotsIn [x], id ∈ mentAV (s.cell i) := by
  cases x with
  | tmp i =>
    refine ⟨i, by simp [slotsIn], ?_⟩
    unfold St.leaf at h
    simp only [St.op] at h
    split at h
    · rename_i l hl
      cases h
      rw [hl]
      simp [mentAV, mentVl, Vl.ls, mentLs, mentLf]
    · cases h
  | const v =>
    unfold St.leaf at h
    simp only [St.op] at h
    split at h
    · rename_i l hl
      cases h
      unfold constAV at hl
      split at hl
      · split at hl <;> cases hl
      · cases hl
      · cases hl
    · cases h
  | global _ => cases h
  | func _ => cases h
theorem isLastR_cong {x : Operand} (h : s.leaf x = t.leaf x) (hr : ∀ id, s.leaf x = some (.row id) → s.res id = t.res id) : isLastR s x = isLastR t x := by
  unfold isLastR
  rw [← h]
  split
  · rename_i id hl
    rw [hr id hl]
  · rfl
theorem sl_cong {x : Operand} (h : s.leaf x = t.leaf x) (hr : ∀ id, s.leaf x = some (.row id) → s.res id = t.res id) : (s.leaf x).bind s.sl = (t.leaf x).bind t.sl := by
  rw [← h]
  cases hl : s.leaf x with
  | none => rfl
  | some l =>
    cases l with
    | row id => simp only [Option.bind_some, St.sl]; rw [hr id hl]
    | _ => rfl
theorem opIndexL_cong {T : TypeId} {x y : Operand} (h : s.leaf x = t.leaf x) (hr : ∀ id, s.leaf x = some (.row id) → s.res id = t.res id) (hy : s.conc y = t.conc y) : opIndexL P s T x y = opIndexL P t T x y := by
  unfold opIndexL
  rw [← h, ← hy]
  split
  · split
    · rename_i id _ _ _ hl _
      rw [hr _ hl]
    · rfl
  · rfl
theorem opLenL_cong {T : TypeId} {x : Operand} (h : s.leaf x = t.leaf x) (hr : ∀ id, s.leaf x = some (.row id) → s.res id = t.res id) : opLenL P s T x = opLenL P t T x := by
  unfold opLenL
  rw [← h]
  split
  · split
    · rename_i id hl
      rw [hr _ hl]
    · rfl
  · rfl
end
theorem opIndexAddrC_cong {s t : St} {T : TypeId} {x y : Operand} (h : s.leaf x = t.leaf x) (hr : ∀ id, s.leaf x = some (.row id) → s.res id = t.res id) (hy : s.conc y = t.conc y) : opIndexAddrC P s T x y = opIndexAddrC P t T x y := by
  unfold opIndexAddrC
  rw [sl_cong h hr, hy]
theorem opLen_cong {s t : St} {T : TypeId} {x : Operand} (h : s.leaf x = t.leaf x) (hr : ∀ id, s.leaf x = some (.row id) → s.res id = t.res id) (hy : s.conc x = t.conc x) : opLen P s T x = opLen P t T x := by
  unfold opLen
  rw [sl_cong h hr, hy]
theorem lfC_same {s t : St} {X : Option (List Bool × Lf)} {av : AV} {v' : St} (e : dir (lfC t X) = some (av, v')) : v' = t ∧ dir (lfC s X) = some (av, s) := by
  cases X with
  | none => cases e
  | some p =>
    simp only [lfC, dir] at e ⊢
    split at e <;> cases e
    rename_i hq
    exact ⟨rfl, by rw [if_pos hq]⟩
theorem v0_same {s t : St} {X : Option Value} {av : AV} {v' : St} (e : dir (v0 t X) = some (av, v')) : v' = t ∧ dir (v0 s X) = some (av, s) := by
  cases X with
  | none => cases e
  | some p =>
    simp only [v0, dir] at e ⊢
    split at e <;> cases e
    rename_i hq
    exact ⟨rfl, by rw [if_pos hq]⟩
theorem allConc_cong {s t : St} : ∀ {l : List Operand}, (∀ y ∈ l, s.conc y = t.conc y) → allConc s l = allConc t l
  | [], _ => rfl
  | y :: r, h => by
    simp only [allConc]
    rw [h y (by simp), allConc_cong (fun z hz => h z (by simp [hz]))]
theorem opMapLen_cong {s t : St} {T : TypeId} {x : Operand} (h : s.leaf x = t.leaf x) (hr : ∀ id, s.leaf x = some (.row id) → s.res id = t.res id) : opMapLen P s T x = opMapLen P t T x := by
  unfold opMapLen
  rw [← h]
  split
  · rename_i hl
    rw [hr _ hl]
  · rfl
theorem light_same {sigs : Tb} {nid : Nat} {o : Oper} {t v' : St} {av : AV} (hl : lightO o = true) (hc : ∀ i ∈ opSlots o, t.cell i = s.cell i) (hr : ∀ i ∈ opSlots o, ∀ id ∈ mentAV (t.cell i), t.res id = s.res id)
    (e : stepD P sigs t nid o = some (av, v')) : v' = t ∧ stepD P sigs s nid o = some (av, s) := by
  obtain ⟨dst, op, type, pos, after, guard⟩ := o
  cases op <;> simp only [lightO] at hl <;> first | (cases hl; done) | skip
  case move x =>
    have hx : t.op x = s.op x := op_cong (fun i hi => hc i (by simpa [opSlots, Op.operands] using hi))
    simp only [Bool.not_eq_true'] at hl
    simp only [stepD, callOf, cloOf, stepC, opMove, hl, avS, dir, allB] at e ⊢
    cases e
    exact ⟨rfl, by rw [hx]; rfl⟩
  case assign x =>
    have hx : t.op x = s.op x := op_cong (fun i hi => hc i (by simpa [opSlots, Op.operands] using hi))
    simp only [Bool.not_eq_true'] at hl
    simp only [stepD, callOf, cloOf, stepC, opMove, hl, avS, dir, allB] at e ⊢
    cases e
    exact ⟨rfl, by rw [hx]; rfl⟩
  case indexAddr T x y =>
    have hs1 : slotsIn [x] ⊆ opSlots ⟨dst, .indexAddr T x y, type, pos, after, guard⟩ := fun i hi => by
      cases x <;> simp [slotsIn, opSlots, Op.operands] at hi ⊢
      exact .inl hi
    have hs2 : slotsIn [y] ⊆ opSlots ⟨dst, .indexAddr T x y, type, pos, after, guard⟩ := fun i hi => by
      cases x <;> cases y <;> simp [slotsIn, opSlots, Op.operands] at hi ⊢ <;> first | exact hi | exact .inr hi
    have hx := leaf_cong (op_cong (s := t) (t := s) (x := x) (fun i hi => hc i (hs1 hi)))
    have hy := conc_cong (op_cong (s := t) (t := s) (x := y) (fun i hi => hc i (hs2 hi)))
    have hrr : ∀ id, t.leaf x = some (.row id) → t.res id = s.res id := fun id hid => by
      obtain ⟨i, h1, h2⟩ := row_ment hid
      exact hr i (hs1 h1) id h2
    simp only [stepD, callOf, cloOf, stepC] at e ⊢
    rw [isLastR_cong hx hrr, opIndexL_cong hx hrr hy, opIndexAddrC_cong hx hrr hy] at e
    split at e
    · rename_i hq
      rw [if_pos hq]
      exact lfC_same e
    · rename_i hq
      rw [if_neg hq]
      exact lfC_same e
  case call c =>
    obtain ⟨callee, args, argTypes⟩ := c
    have hcal : callee = .builtin .len := by
      split at hl
      · rename_i hq; exact hq
      · cases hl
    subst hcal
    simp only [stepD, callOf, cloOf, stepC] at e ⊢
    split at e
    · rename_i x T ha ht
      have ha' : args = #[x] := by apply Array.toList_inj.1; simpa using ha
      subst ha'
      have hs1 : slotsIn [x] ⊆ opSlots ⟨dst, .call ⟨.builtin .len, #[x], argTypes⟩, type, pos, after, guard⟩ := fun i hi => by
        cases x <;> simp [slotsIn, opSlots, Op.operands, Call.operands] at hi ⊢
        exact hi
      have hop := op_cong (s := t) (t := s) (x := x) (fun i hi => hc i (hs1 hi))
      have hx := leaf_cong hop
      have hrr : ∀ id, t.leaf x = some (.row id) → t.res id = s.res id := fun id hid => by
        obtain ⟨i, h1, h2⟩ := row_ment hid
        exact hr i (hs1 h1) id h2
      have hcc : opConc P t ⟨dst, .call ⟨.builtin .len, #[x], argTypes⟩, type, pos, after, guard⟩ = opConc P s ⟨dst, .call ⟨.builtin .len, #[x], argTypes⟩, type, pos, after, guard⟩ := by
        have hcx := conc_cong hop
        unfold opConc
        have e1 : ∀ y ∈ (Op.call ⟨.builtin .len, #[x], argTypes⟩).operands.toList, t.conc y = s.conc y := fun y hy => by
          simp [Op.operands, Call.operands] at hy
          rw [hy]; exact hcx
        rw [allConc_cong e1]
        split
        · have : execOp (fun x => (t.conc x).getD undef) ⟨dst, .call ⟨.builtin .len, #[x], argTypes⟩, type, pos, after, guard⟩ = execOp (fun x => (s.conc x).getD undef) ⟨dst, .call ⟨.builtin .len, #[x], argTypes⟩, type, pos, after, guard⟩ :=
            execOp_congr _ (fun cs b q => by cases q) (fun y hy => by show (t.conc y).getD undef = (s.conc y).getD undef; rw [e1 y (Array.mem_toList_iff.2 hy)])
          rw [this]
        · rfl
      split at e
      · rename_i hsl
        rw [if_pos hsl]
        rw [isLastR_cong hx hrr, opLenL_cong hx hrr, opLen_cong hx hrr (conc_cong hop)] at e
        split at e
        · rename_i hq
          rw [if_pos hq]
          exact v0_same e
        · rename_i hq
          rw [if_neg hq]
          exact v0_same e
      · rename_i hsl
        rw [if_neg hsl]
        rw [hcc, opMapLen_cong hx hrr] at e
        split at e
        · rename_i hq
          rw [if_pos hq]
          exact v0_same e
        · rename_i hq
          rw [if_neg hq]
          exact v0_same e
    · cases e
theorem stepV_ok {sigs : Tb} (hs : SigsOk P sigs) (h : Rel n B Iq s g a w) {nid : Nat} {o : Oper} {av : AV} {v' : St} (e : stepV P sigs s nid o = some (av, v')) :
    Out P n B Iq s g a w o av (if lightO o then s else s.lay v' (idsO s o ++ span nid)) := by
  unfold stepV at e
  dsimp only at e
  split at e
  · rename_i hfr
    split at e
    · rename_i hcl
      obtain ⟨p, e1, e⟩ := Option.bind_eq_some_iff.1 e
      split at e
      · rename_i h1
        split at e <;> cases e
        rename_i h2
        cases hlt : lightO o with
        | true =>
          refine stepD_ok hs h (light_same (t := s.view (opSlots o) (idsO s o)) hlt (fun i hi => ?_) (fun i hi id hid => ?_) e1).2
          · simp [St.view, memB_iff.2 hi]
          · have : (s.view (opSlots o) (idsO s o)).cell i = s.cell i := by simp [St.view, memB_iff.2 hi]
            rw [this] at hid
            simp [St.view, memB_iff.2 (idsO_cells i hi id hid)]
        | false =>
          have c1 := closed_of hcl
          have c2 := closed_of h2
          have hV := view_Rel h (sl := opSlots o) (ids := idsO s o) idsO_cells c1.1 (c1.2 hlt)
          intro K Q hK
          refine stepD_ok hs hV e1 K Q fun v gv' w' k1 k2 k3 => ?_
          obtain ⟨g', q1, q2, q3⟩ := lay_ok h (span_fresh hfr) k1 k2 (allIn_iff.1 h1) c2.1 (c2.2 hlt)
          exact hK v g' w' q1 q2 (q3 v k3)
      · cases e
    · cases e
  · cases e
end
end Go.Proofs.Ytjoiklaecelalaa.R
