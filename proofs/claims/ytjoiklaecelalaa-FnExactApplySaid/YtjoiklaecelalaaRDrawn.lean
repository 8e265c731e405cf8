/- A region whose order is drawn: every order leads to the same. No condition. -/
import Derived.Test.YtjoiklaecelalaaRRegion
namespace Go.Proofs.Ytjoiklaecelalaa.R
open Go Go.RowKit
set_option linter.unusedVariables false
set_option linter.unusedSimpArgs false

/-- What one operation of a region did. -/
structure Ent where
  o : Oper
  nid : Nat
  run : Bool
  ids : List Nat
  av : AV
  res : Nat → Res
def Ent.quiet (P : Program) (e : Ent) : Bool := !e.run || isRo P e.o
def Ent.app (P : Program) (n : Nat) (e : Ent) (s : St) : St := St.put n (if e.quiet P then s else ⟨s.cell, fun id => if memB e.ids id then e.res id else s.res id⟩) e.o.dst e.av
def gslot (ops : Array Oper) (o : Oper) : List Nat := match o.guard with
  | some (j, _) => match ops[j]? with
    | some oj => match oj.dst with
      | some d => [d]
      | none => []
    | none => []
  | none => []
def Ent.looks (ops : Array Oper) (e : Ent) : List Nat := (if e.run then opSlots e.o else []) ++ gslot ops e.o
def runEnt (s : St) (nid : Nat) (o : Oper) (av : AV) (v : St) : Ent := ⟨o, nid, true, idsO s o ++ span nid, av, v.res⟩
def skipEnt (nid : Nat) (o : Oper) : Ent := ⟨o, nid, false, [], .tp [], fun _ => .unborn⟩
def Fits (P : Program) (sigs : Tb) (ops : Array Oper) (s : St) (e : Ent) : Prop :=
  (wantedS s ops e.o = some true ∧ ∃ av v, stepV P sigs s e.nid e.o = some (av, v) ∧ e = runEnt s e.nid e.o av v) ∨ (wantedS s ops e.o = some false ∧ e = skipEnt e.nid e.o)
def AllFit (P : Program) (sigs : Tb) (ops : Array Oper) (n : Nat) : List Ent → St → Prop
  | [], _ => True
  | e :: r, s => Fits P sigs ops s e ∧ AllFit P sigs ops n r (e.app P n s)
def mix (P : Program) (n : Nat) (D : Nat → Bool) : Nat → List Ent → St → St
  | _, [], s => s
  | i, e :: r, s => mix P n D (i + 1) r (if D i then e.app P n s else s)
def hasDst (o : Oper) (l : List Nat) : Bool := match o.dst with
  | some d => memB l d
  | none => false
def sameDst (o o' : Oper) : Bool := match o.dst, o'.dst with
  | some d, some d' => Nat.beq d d'
  | _, _ => false
def meets (l m : List Nat) : Bool := match l with
  | [] => false
  | i :: r => memB m i || meets r m
/-- Two operations that may come in either order. -/
def noConf (P : Program) (ops : Array Oper) (e f : Ent) : Bool :=
  !hasDst e.o (f.looks ops) && !hasDst f.o (e.looks ops) && !sameDst e.o f.o && ((e.quiet P && f.quiet P) || !meets e.ids f.ids)
def preds (o : Oper) : List Nat := (o.after.toList.filter fun e => Region.binds .any e).map (·.on)
def orAnc (ancs : List Nat) : List Nat → Nat
  | [] => 0
  | p :: r => ((1 <<< p) ||| (ancs.getD p 0)) ||| orAnc ancs r
def confGo (P : Program) (ops : Array Oper) (A : Nat) (e : Ent) : Nat → List Ent → Bool
  | _, [] => true
  | k, d :: r => (A.testBit k || noConf P ops d e) && confGo P ops A e (k + 1) r
def ltAll (i : Nat) : List Nat → Bool
  | [] => true
  | p :: r => Nat.blt p i && ltAll i r
def okGo (P : Program) (ops : Array Oper) : Nat → List Ent → List Nat → List Ent → Bool
  | _, _, _, [] => true
  | i, done, ancs, e :: r => ltAll i (preds e.o) && (confGo P ops (orAnc ancs (preds e.o)) e 0 done && okGo P ops (i + 1) (done ++ [e]) (ancs ++ [orAnc ancs (preds e.o)]) r)
section
variable {P : Program} {n B : Nat} {Iq : List Nat} {sigs : Tb} {ops : Array Oper}
theorem meets_iff {l m : List Nat} : meets l m = false ↔ ∀ i ∈ l, i ∉ m := by
  induction l with
  | nil => simp [meets]
  | cons j r ih =>
    simp only [meets, Bool.or_eq_false_iff, ih, List.forall_mem_cons]
    constructor
    · rintro ⟨h1, h2⟩
      exact ⟨fun q => (by rw [memB_iff.2 q] at h1; cases h1), h2⟩
    · rintro ⟨h1, h2⟩
      refine ⟨?_, h2⟩
      cases hq : memB m j
      · rfl
      · exact absurd (memB_iff.1 hq) h1
theorem ltAll_iff {i : Nat} {l : List Nat} : ltAll i l = true ↔ ∀ p ∈ l, p < i := by
  induction l with
  | nil => simp [ltAll]
  | cons j r ih => simp [ltAll, ih, Nat.blt_eq]
/-- e' changes nothing that e looks at. -/
def Apart (P : Program) (ops : Array Oper) (e' e : Ent) : Prop := (∀ d, e'.o.dst = some d → d ∉ e.looks ops) ∧ (e'.quiet P = false → ∀ id ∈ e'.ids, id ∉ e.ids)
theorem hasDst_false {o : Oper} {l : List Nat} (h : hasDst o l = false) : ∀ d, o.dst = some d → d ∉ l := by
  intro d hd q
  unfold hasDst at h
  rw [hd] at h
  simp only at h
  rw [memB_iff.2 q] at h
  cases h
theorem noConf_apart {e f : Ent} (h : noConf P ops e f = true) : Apart P ops e f ∧ Apart P ops f e := by
  simp only [noConf, Bool.and_eq_true, Bool.not_eq_true', Bool.or_eq_true] at h
  obtain ⟨⟨⟨h1, h2⟩, h3⟩, h4⟩ := h
  refine ⟨⟨hasDst_false h1, fun q id hid => ?_⟩, ⟨hasDst_false h2, fun q id hid hid' => ?_⟩⟩
  · rcases h4 with h4 | h4
    · rw [h4.1] at q; cases q
    · exact meets_iff.1 h4 id hid
  · rcases h4 with h4 | h4
    · rw [h4.2] at q; cases q
    · exact meets_iff.1 h4 id hid' hid
theorem put_cell (s : St) (d : Option Tmp) (av : AV) (x : Nat) : (s.put n d av).cell x = if (d = some x ∧ Nat.blt x n = true) then av else s.cell x := by
  cases d with
  | none => simp [St.put]
  | some d =>
    unfold St.put
    simp only
    by_cases q : x = d
    · subst q
      by_cases hn : Nat.blt x n = true
      · simp [hn, St.setCell]
      · simp [hn]
    · have : ¬ (some d = some x ∧ Nat.blt x n = true) := fun h => q (Option.some.inj h.1).symm
      rw [if_neg this]
      split
      · simp [St.setCell, upd_ne _ _ q]
      · rfl
theorem app_cell (e : Ent) (s : St) (x : Nat) : (e.app P n s).cell x = if (e.o.dst = some x ∧ Nat.blt x n = true) then e.av else s.cell x := by
  unfold Ent.app
  rw [put_cell]
  split
  · rfl
  · split <;> rfl
theorem app_res (e : Ent) (s : St) (id : Nat) : (e.app P n s).res id = if e.quiet P = false ∧ id ∈ e.ids then e.res id else s.res id := by
  unfold Ent.app
  rw [put_res]
  by_cases q : e.quiet P = true
  · simp [q]
  · have q : e.quiet P = false := by simpa using q
    simp only [q, Bool.false_eq_true, if_false, true_and]
    by_cases hm : id ∈ e.ids
    · simp [hm, memB_iff.2 hm]
    · have : memB e.ids id = false := by
        cases hq : memB e.ids id
        · rfl
        · exact absurd (memB_iff.1 hq) hm
      simp [hm, this]
theorem St.ext' {s t : St} (h1 : ∀ i, s.cell i = t.cell i) (h2 : ∀ id, s.res id = t.res id) : s = t := by
  obtain ⟨c, r⟩ := s
  obtain ⟨c', r'⟩ := t
  congr
  · exact funext h1
  · exact funext h2
theorem app_comm {e f : Ent} (h : noConf P ops e f = true) (s : St) : f.app P n (e.app P n s) = e.app P n (f.app P n s) := by
  have hd : ∀ d, e.o.dst = some d → f.o.dst ≠ some d := by
    intro d h1 h2
    simp only [noConf, Bool.and_eq_true, Bool.not_eq_true'] at h
    have := h.1.2
    unfold sameDst at this
    rw [h1, h2] at this
    simp at this
  have hr : ∀ id, e.quiet P = false → id ∈ e.ids → ¬ (f.quiet P = false ∧ id ∈ f.ids) := fun id q1 q2 q3 => (noConf_apart h).1.2 q1 id q2 q3.2
  refine St.ext' (fun i => ?_) (fun id => ?_)
  · rw [app_cell, app_cell, app_cell, app_cell]
    by_cases h1 : e.o.dst = some i ∧ Nat.blt i n = true
    · have h2 : ¬ (f.o.dst = some i ∧ Nat.blt i n = true) := fun q => hd i h1.1 q.1
      rw [if_neg h2, if_pos h1, if_pos h1]
    · rw [if_neg h1, if_neg h1]
  · rw [app_res, app_res, app_res, app_res]
    by_cases h1 : e.quiet P = false ∧ id ∈ e.ids
    · rw [if_neg (hr id h1.1 h1.2), if_pos h1, if_pos h1]
    · rw [if_neg h1, if_neg h1]
/-! ### What is looked at -/
def Agree (s t : St) (L I : List Nat) : Prop := (∀ x ∈ L, s.cell x = t.cell x) ∧ ∀ id ∈ I, s.res id = t.res id
theorem Agree.app {s t : St} {L I : List Nat} (h : Agree s t L I) (e : Ent) : Agree (e.app P n s) (e.app P n t) L I := by
  refine ⟨fun x hx => ?_, fun id hid => ?_⟩
  · rw [app_cell, app_cell, h.1 x hx]
  · rw [app_res, app_res, h.2 id hid]
theorem Apart.agree {e' e : Ent} (h : Apart P ops e' e) (s : St) : Agree (e'.app P n s) s (e.looks ops) e.ids := by
  refine ⟨fun x hx => ?_, fun id hid => ?_⟩
  · rw [app_cell, if_neg (fun q => h.1 x q.1 hx)]
  · rw [app_res, if_neg (fun q => h.2 q.1 id q.2 hid)]
theorem Agree.trans {s t u : St} {L I : List Nat} (h : Agree s t L I) (k : Agree t u L I) : Agree s u L I := ⟨fun x hx => (h.1 x hx).trans (k.1 x hx), fun x hx => (h.2 x hx).trans (k.2 x hx)⟩
theorem Agree.symm {s t : St} {L I : List Nat} (h : Agree s t L I) : Agree t s L I := ⟨fun x hx => (h.1 x hx).symm, fun x hx => (h.2 x hx).symm⟩
theorem cellsMent_congr {s t : St} : ∀ {sl : List Nat}, (∀ x ∈ sl, s.cell x = t.cell x) → cellsMent s sl = cellsMent t sl
  | [], _ => rfl
  | i :: r, h => by
    simp only [cellsMent]
    rw [h i (by simp), cellsMent_congr (fun x hx => h x (by simp [hx]))]
theorem resMent_congr {s t : St} : ∀ {l : List Nat}, (∀ x ∈ l, s.res x = t.res x) → resMent s l = resMent t l
  | [], _ => rfl
  | i :: r, h => by
    simp only [resMent]
    rw [h i (by simp), resMent_congr (fun x hx => h x (by simp [hx]))]
theorem idsOf_congr {s t : St} {sl : List Nat} (h1 : ∀ x ∈ sl, s.cell x = t.cell x) (h2 : ∀ id ∈ idsOf s sl, s.res id = t.res id) : idsOf t sl = idsOf s sl := by
  unfold idsOf at h2 ⊢
  dsimp only at h2 ⊢
  rw [← cellsMent_congr h1]
  have e1 : resMent t (cellsMent s sl) = resMent s (cellsMent s sl) := (resMent_congr (fun x hx => h2 x (List.mem_append_left _ (List.mem_append_left _ hx)))).symm
  rw [e1]
  have e2 : resMent t (cellsMent s sl ++ resMent s (cellsMent s sl)) = resMent s (cellsMent s sl ++ resMent s (cellsMent s sl)) := (resMent_congr (fun x hx => h2 x (List.mem_append_left _ hx))).symm
  rw [e2]
theorem wkMent_congr {s t : St} : ∀ {l : List Nat}, (∀ x ∈ l, s.res x = t.res x) → wkMent s l = wkMent t l
  | [], _ => rfl
  | i :: r, h => by
    simp only [wkMent]
    rw [h i (by simp), wkMent_congr (fun x hx => h x (by simp [hx]))]
theorem idsO_congr {s t : St} {o : Oper} (h1 : ∀ x ∈ opSlots o, s.cell x = t.cell x) (h2 : ∀ id ∈ idsO s o, s.res id = t.res id) : idsO t o = idsO s o := by
  unfold idsO at h2 ⊢
  split
  · rename_i hq
    rw [if_pos hq] at h2
    exact idsOf_congr h1 h2
  · rename_i hq
    rw [if_neg hq] at h2
    have h3 : ∀ id ∈ idsOf s (opSlots o), s.res id = t.res id := fun id q => h2 id (List.mem_append_left _ q)
    rw [idsOf_congr h1 h3, ← wkMent_congr h3]
theorem closedB_congr {s t : St} {o : Oper} {m : List Nat} (h : ∀ id ∈ m, s.res id = t.res id) : closedB o t m = closedB o s m := by
  unfold closedB
  rw [resMent_congr h, wkMent_congr h]
theorem freshB_congr {s t : St} : ∀ {k nid : Nat}, (∀ id, nid ≤ id → id < nid + k → s.res id = t.res id) → freshB t nid k = freshB s nid k
  | 0, _, _ => rfl
  | k + 1, nid, h => by
    simp only [freshB]
    rw [h nid (Nat.le_refl _) (by omega), freshB_congr (fun id q1 q2 => h id (by omega) (by omega))]
theorem view_congr {s t : St} {sl ids : List Nat} (h1 : ∀ x ∈ sl, s.cell x = t.cell x) (h2 : ∀ id ∈ ids, s.res id = t.res id) : t.view sl ids = s.view sl ids := by
  refine St.ext' (fun i => ?_) (fun id => ?_)
  · show (if memB sl i then t.cell i else .dead) = (if memB sl i then s.cell i else .dead)
    split
    · rename_i q; rw [h1 i (memB_iff.1 q)]
    · rfl
  · show (if memB ids id then t.res id else .unborn) = (if memB ids id then s.res id else .unborn)
    split
    · rename_i q; rw [h2 id (memB_iff.1 q)]
    · rfl
theorem stepV_congr {s t : St} {nid : Nat} {o : Oper} (h1 : ∀ x ∈ opSlots o, s.cell x = t.cell x) (h2 : ∀ id ∈ idsO s o ++ span nid, s.res id = t.res id) : stepV P sigs t nid o = stepV P sigs s nid o := by
  have h3 : ∀ id ∈ idsO s o, s.res id = t.res id := fun id q => h2 id (List.mem_append_left _ q)
  unfold stepV
  dsimp only
  rw [idsO_congr h1 h3, view_congr h1 h3, ← closedB_congr h3, freshB_congr (s := s) (t := t) (fun id q1 q2 => h2 id (List.mem_append_right _ (by
    simp only [span, List.mem_cons, List.not_mem_nil, or_false, wide] at q2 ⊢
    omega)))]
theorem gval_congr {s t : St} {o : Oper} {j : Nat} {want : Bool} (hg : o.guard = some (j, want)) (h : ∀ x ∈ gslot ops o, s.cell x = t.cell x) : gval t ops j = gval s ops j := by
  unfold gslot at h
  rw [hg] at h
  simp only at h
  unfold gval
  split
  · rename_i oj hoj
    rw [hoj] at h
    simp only at h
    split
    · rename_i d hd
      rw [hd] at h
      simp only [List.mem_cons, List.not_mem_nil, or_false, forall_eq] at h
      rw [h]
    · rfl
  · rfl
theorem wantedS_congr {s t : St} {o : Oper} (h : ∀ x ∈ gslot ops o, s.cell x = t.cell x) : wantedS t ops o = wantedS s ops o := by
  unfold wantedS
  split
  · rfl
  · rename_i j want hg
    rw [gval_congr hg h]
theorem Fits.local {s t : St} {e : Ent} (h : Fits P sigs ops s e) (ha : Agree s t (e.looks ops) e.ids) : Fits P sigs ops t e := by
  have hg : ∀ x ∈ gslot ops e.o, s.cell x = t.cell x := fun x hx => ha.1 x (List.mem_append_right _ hx)
  rcases h with ⟨h1, av, v, h2, h3⟩ | ⟨h1, h2⟩
  · left
    have hrun : e.run = true := by rw [h3]; rfl
    have hids : e.ids = idsO s e.o ++ span e.nid := by rw [h3]; rfl
    have c1 : ∀ x ∈ opSlots e.o, s.cell x = t.cell x := fun x hx => ha.1 x (List.mem_append_left _ (by rw [hrun]; exact hx))
    have c2 : ∀ id ∈ idsO s e.o ++ span e.nid, s.res id = t.res id := fun id hid => ha.2 id (by rw [hids]; exact hid)
    refine ⟨by rw [wantedS_congr hg]; exact h1, av, v, by rw [stepV_congr c1 c2]; exact h2, ?_⟩
    have : runEnt t e.nid e.o av v = runEnt s e.nid e.o av v := by
      unfold runEnt
      rw [idsO_congr c1 (fun id hid => c2 id (List.mem_append_left _ hid))]
    rw [this]
    exact h3
  · exact .inr ⟨by rw [wantedS_congr hg]; exact h1, h2⟩
/-! ### Sets of operations that are done -/
theorem mix_comm {D : Nat → Bool} {e : Ent} : ∀ {tr : List Ent} {k : Nat} {s : St}, (∀ j f, tr[j]? = some f → D (k + j) = true → noConf P ops e f = true) → mix P n D k tr (e.app P n s) = e.app P n (mix P n D k tr s)
  | [], _, _, _ => rfl
  | f :: r, k, s, h => by
    simp only [mix]
    have h' : ∀ j f', r[j]? = some f' → D (k + 1 + j) = true → noConf P ops e f' = true := fun j f' h1 h2 => h (j + 1) f' (by simpa using h1) (by rw [← h2]; congr 1; omega)
    split
    · rename_i hD
      rw [app_comm (h 0 f rfl hD), mix_comm h']
    · exact mix_comm h'
theorem mix_congr {D D' : Nat → Bool} : ∀ {tr : List Ent} {k : Nat} {s : St}, (∀ j, j < tr.length → D (k + j) = D' (k + j)) → mix P n D k tr s = mix P n D' k tr s
  | [], _, _, _ => rfl
  | f :: r, k, s, h => by
    simp only [mix]
    have h0 : D k = D' k := h 0 (by simp)
    rw [h0]
    exact mix_congr (fun j hj => by have := h (j + 1) (by simpa using hj); rw [show k + 1 + j = k + (j + 1) by omega]; exact this)
theorem mix_set {D D' : Nat → Bool} {e : Ent} : ∀ {tr : List Ent} {k i : Nat} {s : St}, tr[i]? = some e → D (k + i) = false → D' (k + i) = true → (∀ j, j ≠ i → D' (k + j) = D (k + j)) →
    (∀ j f, i < j → tr[j]? = some f → D (k + j) = true → noConf P ops e f = true) → mix P n D' k tr s = e.app P n (mix P n D k tr s)
  | [], _, _, _, h, _, _, _, _ => by simp at h
  | f :: r, k, 0, s, h, h1, h2, h3, h4 => by
    simp at h
    subst h
    simp only [mix]
    have h1' : D k = false := h1
    have h2' : D' k = true := h2
    rw [h1', h2']
    simp only [if_true, Bool.false_eq_true, if_false]
    rw [mix_congr (D := D') (D' := D) (fun j hj => by have := h3 (j + 1) (by omega); rw [show k + 1 + j = k + (j + 1) by omega]; exact this)]
    exact mix_comm (fun j f' q1 q2 => h4 (j + 1) f' (by omega) (by simpa using q1) (by rw [← q2]; congr 1; omega))
  | f :: r, k, i + 1, s, h, h1, h2, h3, h4 => by
    simp only [mix]
    have h0 : D' k = D k := h3 0 (by omega)
    rw [h0]
    refine mix_set (i := i) (by simpa using h) (by rw [← h1]; congr 1; omega) (by rw [← h2]; congr 1; omega) (fun j hj => ?_) (fun j f' q1 q2 q3 => ?_)
    · have := h3 (j + 1) (by omega)
      rw [show k + 1 + j = k + (j + 1) by omega]
      exact this
    · exact h4 (j + 1) f' (by omega) (by simpa using q2) (by rw [← q3]; congr 1; omega)
theorem mix_agree {D : Nat → Bool} {e : Ent} : ∀ {tr : List Ent} {k i : Nat} {s t : St}, Agree s t (e.looks ops) e.ids →
    (∀ j f, tr[j]? = some f → j < i → D (k + j) = false → Apart P ops f e) → (∀ j f, tr[j]? = some f → i ≤ j → D (k + j) = true → Apart P ops f e) →
    Agree (mix P n D k tr s) (mix P n (fun _ => true) k (tr.take i) t) (e.looks ops) e.ids
  | [], k, i, s, t, h, _, _ => by simpa [mix] using h
  | f :: r, k, 0, s, t, h, h1, h2 => by
    simp only [mix, List.take_zero]
    have ih : ∀ s', Agree s' t (e.looks ops) e.ids → Agree (mix P n D (k + 1) r s') t (e.looks ops) e.ids := fun s' q => by
      have := mix_agree (D := D) (tr := r) (k := k + 1) (i := 0) q (fun j f' q1 q2 => by omega) (fun j f' q1 _ q3 => h2 (j + 1) f' (by simpa using q1) (by omega) (by rw [← q3]; congr 1; omega))
      simpa [mix] using this
    split
    · rename_i hD
      exact ih _ (((h2 0 f rfl (by omega) hD).agree s).trans h)
    · exact ih _ h
  | f :: r, k, i + 1, s, t, h, h1, h2 => by
    simp only [mix, List.take_succ_cons, if_true]
    have ih : ∀ s' t', Agree s' t' (e.looks ops) e.ids → Agree (mix P n D (k + 1) r s') (mix P n (fun _ => true) (k + 1) (r.take i) t') (e.looks ops) e.ids := fun s' t' q =>
      mix_agree (D := D) q (fun j f' q1 q2 q3 => h1 (j + 1) f' (by simpa using q1) (by omega) (by rw [← q3]; congr 1; omega)) (fun j f' q1 q2 q3 => h2 (j + 1) f' (by simpa using q1) (by omega) (by rw [← q3]; congr 1; omega))
    split
    · exact ih _ _ (h.app f)
    · rename_i hD
      have hD : D k = false := by simpa using hD
      exact ih _ _ (h.trans ((h1 0 f rfl (by omega) hD).agree t).symm)
theorem AllFit.get : ∀ {tr : List Ent} {k i : Nat} {s : St} {e : Ent}, AllFit P sigs ops n tr s → tr[i]? = some e → Fits P sigs ops (mix P n (fun _ => true) k (tr.take i) s) e
  | [], _, _, _, _, _, h => by simp at h
  | f :: r, k, 0, s, e, h, hi => by
    simp at hi
    subst hi
    simpa [mix] using h.1
  | f :: r, k, i + 1, s, e, h, hi => by
    simp only [List.take_succ_cons, mix, if_true]
    exact AllFit.get h.2 (by simpa using hi)
/-! ### What comes before -/
def Closed (tr : List Ent) (D : Nat → Prop) : Prop := ∀ k e, tr[k]? = some e → D k → ∀ p ∈ preds e.o, D p
def Bef (tr : List Ent) (i : Nat) (e : Ent) : Prop := ∀ D, Closed tr D → (∀ p ∈ preds e.o, D p) → D i
theorem orAnc_bit {ancs : List Nat} {i : Nat} : ∀ {ps : List Nat}, (orAnc ancs ps).testBit i = true → ∃ p ∈ ps, p = i ∨ (ancs.getD p 0).testBit i = true
  | [], h => by simp [orAnc] at h
  | p :: r, h => by
    simp only [orAnc, Nat.testBit_or, Bool.or_eq_true] at h
    rcases h with (h | h) | h
    · refine ⟨p, by simp, .inl ?_⟩
      rw [Nat.one_shiftLeft, Nat.testBit_two_pow] at h
      simpa using h
    · exact ⟨p, by simp, .inr h⟩
    · obtain ⟨q, h1, h2⟩ := orAnc_bit h
      exact ⟨q, by simp [h1], h2⟩
theorem confGo_get {A : Nat} {e : Ent} : ∀ {l : List Ent} {k : Nat}, confGo P ops A e k l = true → ∀ j f, l[j]? = some f → A.testBit (k + j) = true ∨ noConf P ops f e = true
  | [], _, _, j, f, hj => by simp at hj
  | d :: r, k, h, 0, f, hj => by
    simp at hj
    subst hj
    simp only [confGo, Bool.and_eq_true, Bool.or_eq_true] at h
    exact h.1
  | d :: r, k, h, j + 1, f, hj => by
    simp only [confGo, Bool.and_eq_true, Bool.or_eq_true] at h
    have := confGo_get h.2 j f (by simpa using hj)
    rw [show k + (j + 1) = k + 1 + j by omega]
    exact this
theorem okGo_get {tr : List Ent} : ∀ {rest done : List Ent} {ancs : List Nat}, tr = done ++ rest → ancs.length = done.length → okGo P ops done.length done ancs rest = true →
    (∀ k e x, done[k]? = some e → (ancs.getD k 0).testBit x = true → Bef tr x e) →
    (∀ i j e f, tr[i]? = some e → tr[j]? = some f → i < j → j < done.length → Bef tr i f ∨ noConf P ops e f = true) →
    (∀ j f, tr[j]? = some f → j < done.length → ∀ p ∈ preds f.o, p < j) →
    (∀ i j e f, tr[i]? = some e → tr[j]? = some f → i < j → Bef tr i f ∨ noConf P ops e f = true) ∧ (∀ j f, tr[j]? = some f → ∀ p ∈ preds f.o, p < j)
  | [], done, ancs, h, _, _, _, h3, h4 => by
    subst h
    rw [List.append_nil]
    refine ⟨fun i j e f h1 h2 h5 => ?_, fun j f h1 => ?_⟩
    · have := h3 i j e f (by rw [List.append_nil]; exact h1) (by rw [List.append_nil]; exact h2) h5 (List.getElem?_eq_some_iff.1 h2).1
      rwa [List.append_nil] at this
    · exact h4 j f (by rw [List.append_nil]; exact h1) (List.getElem?_eq_some_iff.1 h1).1
  | e :: rest, done, ancs, h, hl, hok, h2, h3, h4 => by
    simp only [okGo, Bool.and_eq_true] at hok
    obtain ⟨k1, k2, k3⟩ := hok
    have hget : tr[done.length]? = some e := by rw [h]; simp
    have hbef : ∀ x, (orAnc ancs (preds e.o)).testBit x = true → Bef tr x e := by
      intro x hx D hD hp
      obtain ⟨p, q1, q2⟩ := orAnc_bit hx
      rcases q2 with rfl | q2
      · exact hp _ q1
      · have hpl : p < done.length := ltAll_iff.1 k1 p q1
        have hpe : done[p]? = some done[p] := List.getElem?_eq_getElem hpl
        have hpt : tr[p]? = some done[p] := by rw [h, List.getElem?_append_left hpl]; exact hpe
        exact h2 p _ x hpe q2 D hD (hD p _ hpt (hp p q1))
    have hlen : (done ++ [e]).length = done.length + 1 := by simp
    refine okGo_get (rest := rest) (done := done ++ [e]) (ancs := ancs ++ [orAnc ancs (preds e.o)]) (by rw [h]; simp) (by simp [hl]) (by rw [hlen]; exact k3) ?_ ?_ ?_
    · intro k f x hk hx
      by_cases q : k < done.length
      · rw [List.getElem?_append_left q] at hk
        refine h2 k f x hk ?_
        rw [List.getD_eq_getElem?_getD, List.getElem?_append_left (by omega), ← List.getD_eq_getElem?_getD] at hx
        exact hx
      · have hkl := (List.getElem?_eq_some_iff.1 hk).1
        have hke : k = done.length := by simp at hkl; omega
        subst hke
        simp at hk
        subst hk
        rw [List.getD_eq_getElem?_getD, ← hl] at hx
        simp at hx
        exact hbef x hx
    · intro i j f f' q1 q2 q3 q4
      by_cases q : j < done.length
      · exact h3 i j f f' q1 q2 q3 q
      · have : j = done.length := by simp at q4; omega
        subst this
        rw [hget] at q2
        cases q2
        have hi : done[i]? = some f := by rw [h, List.getElem?_append_left q3] at q1; exact q1
        rcases confGo_get k2 i f hi with q5 | q5
        · exact .inl (hbef i (by simpa using q5))
        · exact .inr q5
    · intro j f q1 q2
      by_cases q : j < done.length
      · exact h4 j f q1 q
      · have : j = done.length := by simp at q2; omega
        subst this
        rw [hget] at q1
        cases q1
        exact ltAll_iff.1 k1
end
end Go.Proofs.Ytjoiklaecelalaa.R
