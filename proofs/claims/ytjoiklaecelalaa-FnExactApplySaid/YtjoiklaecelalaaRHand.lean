/- What is handed over at a call, told of the world alone, and the state that it makes. No condition. -/
import Derived.Test.YtjoiklaecelalaaRMake6
namespace Go.Proofs.Ytjoiklaecelalaa.R
open Go Go.RowKit
set_option linter.unusedVariables false
set_option linter.unusedSimpArgs false

/-- How it is handed over: read; a row for good; a variable's address; a row that comes back. -/
inductive Md where
  | rd (t : Ty)
  | own (e : TypeId) (t : Ty)
  | bx (T : TypeId) (t : Ty)
  | mu (e : TypeId) (t : Ty)
def Md.D : Md → Type
  | .rd t => t.D
  | .own _ t => List t.D
  | .bx _ t => t.D
  | .mu _ t => List t.D
def MsD : List Md → Type
  | [] => Unit
  | m :: ms => m.D × MsD ms
/-- The variables' content behind the call. -/
def BxD : List Md → Type
  | [] => Unit
  | .rd _ :: ms => BxD ms
  | .own _ _ :: ms => BxD ms
  | .bx _ t :: ms => t.D × BxD ms
  | .mu _ t :: ms => List t.D × BxD ms
def OwnR (w : World) (S : Nat → Prop) (e : TypeId) (t : Ty) (xs : List t.D) (u : Value) : Prop := ∃ cs, w.ownsRow 0 e t.sz u xs.length cs ∧ RepK w S t xs cs
def BoxR (w : World) (S : Nat → Prop) (T : TypeId) (t : Ty) (x : t.D) (b : Nat) : Prop := ∃ cs, w.heap[b]? = some (.cells cs T (0, 0)) ∧ t.K w S x cs.toList
/-- The cells tell the data. -/
def HR (w : World) (S : Nat → Prop) : (ms : List Md) → MsD ms → List Value → Prop
  | [], _, us => us = []
  | .rd t :: ms, x, us => ∃ c1 c2, us = c1 ++ c2 ∧ t.K w S x.1 c1 ∧ HR w S ms x.2 c2
  | .own e t :: ms, x, us => ∃ u c2, us = u :: c2 ∧ OwnR w S e t x.1 u ∧ HR w S ms x.2 c2
  | .bx T t :: ms, x, us => ∃ b c2, us = .pointer (some ⟨b, 0, none⟩) :: c2 ∧ BoxR w S T t x.1 b ∧ HR w S ms x.2 c2
  | .mu e t :: ms, x, us => ∃ u c2, us = u :: c2 ∧ OwnR w S e t x.1 u ∧ HR w S ms x.2 c2
def ptrBlock : Value → Option Nat
  | .pointer (some a) => some a.block
  | _ => none
/-- The blocks that are handed over. -/
def blks : List Md → List Value → List Nat
  | [], _ => []
  | .rd t :: ms, us => blks ms (us.drop t.sz)
  | .own _ _ :: ms, us => ((us.head?).bind Value.ownBlock).toList ++ blks ms us.tail
  | .bx _ _ :: ms, us => ((us.head?).bind ptrBlock).toList ++ blks ms us.tail
  | .mu _ _ :: ms, us => ((us.head?).bind Value.ownBlock).toList ++ blks ms us.tail
/-- Those that come back. -/
def bxs : List Md → List Value → List Nat
  | [], _ => []
  | .rd t :: ms, us => bxs ms (us.drop t.sz)
  | .own _ _ :: ms, us => bxs ms us.tail
  | .bx _ _ :: ms, us => ((us.head?).bind ptrBlock).toList ++ bxs ms us.tail
  | .mu _ _ :: ms, us => ((us.head?).bind Value.ownBlock).toList ++ bxs ms us.tail
def BkR (w : World) (S : Nat → Prop) : (ms : List Md) → BxD ms → List Value → Prop
  | [], _, _ => True
  | .rd t :: ms, y, us => BkR w S ms y (us.drop t.sz)
  | .own _ _ :: ms, y, us => BkR w S ms y us.tail
  | .bx T t :: ms, y, us => (∃ b, us.head? = some (.pointer (some ⟨b, 0, none⟩)) ∧ BoxR w S T t y.1 b) ∧ BkR w S ms y.2 us.tail
  | .mu e t :: ms, y, us => (∃ u, us.head? = some u ∧ OwnR w S e t y.1 u) ∧ BkR w S ms y.2 us.tail
/-- How the cells are put together: one by itself, or so many as a record. -/
def ShR : List (Option Nat) → List Value → List Value → Prop
  | [], us, cs => us = [] ∧ cs = []
  | none :: sh, us, cs => ∃ u us' cs', us = u :: us' ∧ cs = u :: cs' ∧ u.oneCell' = true ∧ ShR sh us' cs'
  | some k :: sh, us, cs => ∃ c1 us' cs', us = .agg c1 :: us' ∧ cs = c1.toList ++ cs' ∧ c1.size = k ∧ ShR sh us' cs'
structure Sig where
  ps : List Md
  psh : List (Option Nat)
  rs : List Md
  rsh : List (Option Nat)
def retV : List Value → Value
  | [v] => v
  | vs => .tuple vs.toArray
def OwnOk (w : World) (S : Nat → Prop) (bs : List Nat) : Prop := bs.Nodup ∧ ∀ b ∈ bs, b < w.heap.size ∧ ¬ S b
/-- What may be read behind the call. -/
def After (w : World) (S : Nat → Prop) (bs gone : List Nat) : Nat → Prop := fun b => (S b ∨ b ∈ bs ∨ w.heap.size ≤ b) ∧ b ∉ gone
/-- What a function does, told of data. -/
def Sound (P : Program) (f : FuncId) (sg : Sig) (den : MsD sg.ps → Option (MsD sg.rs × BxD sg.ps)) : Prop :=
  ∀ x r, den x = some r → ∀ (w : World) (S : Nat → Prop) (us args : List Value), HR w S sg.ps x us → ShR sg.psh args us → OwnOk w S (blks sg.ps us) →
    Calls P f args.toArray w fun e w' => ∃ vs us', e = .returned (retV vs) ∧ ShR sg.rsh vs us' ∧ Keeps (blks sg.ps us) w w' ∧
      HR w' (After w S (blks sg.ps us) (blks sg.rs us' ++ bxs sg.ps us)) sg.rs r.1 us' ∧
      BkR w' (After w S (blks sg.ps us) (blks sg.rs us' ++ bxs sg.ps us)) sg.ps r.2 us ∧
      (blks sg.rs us' ++ bxs sg.ps us).Nodup ∧ ∀ b ∈ blks sg.rs us', b < w'.heap.size ∧ (b ∈ blks sg.ps us ∨ w.heap.size ≤ b)

/-! ### The state that it makes -/
def cnt : List Md → Nat
  | [] => 0
  | .rd _ :: ms => cnt ms
  | .own _ _ :: ms => cnt ms + 1
  | .bx _ _ :: ms => cnt ms + 1
  | .mu _ _ :: ms => cnt ms + 1
def canL : (ms : List Md) → MsD ms → Nat → List Lf
  | [], _, _ => []
  | .rd t :: ms, x, id => t.leafs x.1 ++ canL ms x.2 id
  | .own _ _ :: ms, x, id => .row id :: canL ms x.2 (id + 1)
  | .bx _ _ :: ms, x, id => .ptr id 0 :: canL ms x.2 (id + 1)
  | .mu _ _ :: ms, x, id => .row id :: canL ms x.2 (id + 1)
def canR : (ms : List Md) → MsD ms → Nat → (Nat → Res) → Nat → Res
  | [], _, _, res => res
  | .rd _ :: ms, x, id, res => canR ms x.2 id res
  | .own e t :: ms, x, id, res => canR ms x.2 (id + 1) (upd res id (.row e t x.1))
  | .bx T t :: ms, x, id, res => canR ms x.2 (id + 1) (upd res id (.box T (t.leafs x.1)))
  | .mu e t :: ms, x, id, res => canR ms x.2 (id + 1) (upd res id (.row e t x.1))
def canG : List Md → List Value → Nat → Gh → Gh
  | [], _, _, g => g
  | .rd t :: ms, us, id, g => canG ms (us.drop t.sz) id g
  | .own _ _ :: ms, us, id, g => canG ms us.tail (id + 1) ⟨upd g.blk id ((us.head?).bind Value.ownBlock), upd g.hdr id (us.headD undef), g.av⟩
  | .bx _ _ :: ms, us, id, g => canG ms us.tail (id + 1) ⟨upd g.blk id ((us.head?).bind ptrBlock), g.hdr, g.av⟩
  | .mu _ _ :: ms, us, id, g => canG ms us.tail (id + 1) ⟨upd g.blk id ((us.head?).bind Value.ownBlock), upd g.hdr id (us.headD undef), g.av⟩
theorem canR_out : ∀ (ms : List Md) (x : MsD ms) (id : Nat) (res : Nat → Res) (j : Nat), (j < id ∨ id + cnt ms ≤ j) → canR ms x id res j = res j
  | [], _, _, _, _, _ => rfl
  | .rd _ :: ms, x, id, res, j, h => canR_out ms x.2 id res j h
  | .own e t :: ms, x, id, res, j, h => by
    simp only [canR, cnt] at h ⊢
    rw [canR_out ms x.2 _ _ j (by omega), upd_ne _ _ (by omega)]
  | .bx T t :: ms, x, id, res, j, h => by
    simp only [canR, cnt] at h ⊢
    rw [canR_out ms x.2 _ _ j (by omega), upd_ne _ _ (by omega)]
  | .mu e t :: ms, x, id, res, j, h => by
    simp only [canR, cnt] at h ⊢
    rw [canR_out ms x.2 _ _ j (by omega), upd_ne _ _ (by omega)]
theorem canG_out : ∀ (ms : List Md) (us : List Value) (id : Nat) (g : Gh) (j : Nat), (j < id ∨ id + cnt ms ≤ j) → (canG ms us id g).blk j = g.blk j ∧ (canG ms us id g).hdr j = g.hdr j
  | [], _, _, _, _, _ => ⟨rfl, rfl⟩
  | .rd t :: ms, us, id, g, j, h => canG_out ms _ id g j h
  | .own e t :: ms, us, id, g, j, h => by
    simp only [canG, cnt] at h ⊢
    obtain ⟨h1, h2⟩ := canG_out ms us.tail (id + 1) ⟨upd g.blk id ((us.head?).bind Value.ownBlock), upd g.hdr id (us.headD undef), g.av⟩ j (by omega)
    rw [h1, h2]
    exact ⟨upd_ne _ _ (by omega), upd_ne _ _ (by omega)⟩
  | .bx T t :: ms, us, id, g, j, h => by
    simp only [canG, cnt] at h ⊢
    obtain ⟨h1, h2⟩ := canG_out ms us.tail (id + 1) ⟨upd g.blk id ((us.head?).bind ptrBlock), g.hdr, g.av⟩ j (by omega)
    rw [h1, h2]
    exact ⟨upd_ne _ _ (by omega), rfl⟩
  | .mu e t :: ms, us, id, g, j, h => by
    simp only [canG, cnt] at h ⊢
    obtain ⟨h1, h2⟩ := canG_out ms us.tail (id + 1) ⟨upd g.blk id ((us.head?).bind Value.ownBlock), upd g.hdr id (us.headD undef), g.av⟩ j (by omega)
    rw [h1, h2]
    exact ⟨upd_ne _ _ (by omega), upd_ne _ _ (by omega)⟩
theorem canG_av : ∀ (ms : List Md) (us : List Value) (id : Nat) (g : Gh), (canG ms us id g).av = g.av
  | [], _, _, _ => rfl
  | .rd t :: ms, us, id, g => canG_av ms _ id g
  | .own _ _ :: ms, us, id, g => canG_av ms _ _ _
  | .bx _ _ :: ms, us, id, g => canG_av ms _ _ _
  | .mu _ _ :: ms, us, id, g => canG_av ms _ _ _
theorem mem_toList_of {o : Option Nat} {b : Nat} (h : o = some b) : b ∈ o.toList := by subst h; simp
theorem canG_in : ∀ (ms : List Md) (us : List Value) (id : Nat) (g : Gh) (j b : Nat), id ≤ j → j < id + cnt ms → (canG ms us id g).blk j = some b → b ∈ blks ms us
  | [], _, _, _, j, b, h1, h2, _ => by simp [cnt] at h2; omega
  | .rd t :: ms, us, id, g, j, b, h1, h2, h => canG_in ms _ id g j b h1 h2 h
  | .own e t :: ms, us, id, g, j, b, h1, h2, h => by
    simp only [canG, cnt, blks] at h h2 ⊢
    by_cases q : j = id
    · rw [(canG_out ms us.tail (id + 1) _ j (by omega)).1] at h
      subst q
      simp only [upd_same] at h
      exact List.mem_append_left _ (mem_toList_of h)
    · exact List.mem_append_right _ (canG_in ms us.tail (id + 1) _ j b (by omega) (by omega) h)
  | .bx T t :: ms, us, id, g, j, b, h1, h2, h => by
    simp only [canG, cnt, blks] at h h2 ⊢
    by_cases q : j = id
    · rw [(canG_out ms us.tail (id + 1) _ j (by omega)).1] at h
      subst q
      simp only [upd_same] at h
      exact List.mem_append_left _ (mem_toList_of h)
    · exact List.mem_append_right _ (canG_in ms us.tail (id + 1) _ j b (by omega) (by omega) h)
  | .mu e t :: ms, us, id, g, j, b, h1, h2, h => by
    simp only [canG, cnt, blks] at h h2 ⊢
    by_cases q : j = id
    · rw [(canG_out ms us.tail (id + 1) _ j (by omega)).1] at h
      subst q
      simp only [upd_same] at h
      exact List.mem_append_left _ (mem_toList_of h)
    · exact List.mem_append_right _ (canG_in ms us.tail (id + 1) _ j b (by omega) (by omega) h)
theorem canG_inj : ∀ (ms : List Md) (us : List Value) (id : Nat) (g : Gh) (i j b : Nat), (blks ms us).Nodup → id ≤ i → i < id + cnt ms → id ≤ j → j < id + cnt ms →
    (canG ms us id g).blk i = some b → (canG ms us id g).blk j = some b → i = j
  | [], _, _, _, _, _, _, _, h1, h2, _, _, _, _ => by simp [cnt] at h2; omega
  | .rd t :: ms, us, id, g, i, j, b, hn, h1, h2, h3, h4, h5, h6 => canG_inj ms _ id g i j b hn h1 h2 h3 h4 h5 h6
  | .own e t :: ms, us, id, g, i, j, b, hn, h1, h2, h3, h4, h5, h6 => by
    simp only [canG, cnt, blks] at hn h2 h4 h5 h6
    obtain ⟨n1, n2, n3⟩ := List.nodup_append.1 hn
    by_cases q1 : i = id <;> by_cases q2 : j = id
    · omega
    · exfalso
      rw [(canG_out ms us.tail (id + 1) _ i (by omega)).1] at h5
      subst q1
      simp only [upd_same] at h5
      exact n3 b (mem_toList_of h5) b (canG_in ms us.tail _ _ j b (by omega) (by omega) h6) rfl
    · exfalso
      rw [(canG_out ms us.tail (id + 1) _ j (by omega)).1] at h6
      subst q2
      simp only [upd_same] at h6
      exact n3 b (mem_toList_of h6) b (canG_in ms us.tail _ _ i b (by omega) (by omega) h5) rfl
    · exact canG_inj ms us.tail (id + 1) _ i j b n2 (by omega) (by omega) (by omega) (by omega) h5 h6
  | .bx T t :: ms, us, id, g, i, j, b, hn, h1, h2, h3, h4, h5, h6 => by
    simp only [canG, cnt, blks] at hn h2 h4 h5 h6
    obtain ⟨n1, n2, n3⟩ := List.nodup_append.1 hn
    by_cases q1 : i = id <;> by_cases q2 : j = id
    · omega
    · exfalso
      rw [(canG_out ms us.tail (id + 1) _ i (by omega)).1] at h5
      subst q1
      simp only [upd_same] at h5
      exact n3 b (mem_toList_of h5) b (canG_in ms us.tail _ _ j b (by omega) (by omega) h6) rfl
    · exfalso
      rw [(canG_out ms us.tail (id + 1) _ j (by omega)).1] at h6
      subst q2
      simp only [upd_same] at h6
      exact n3 b (mem_toList_of h6) b (canG_in ms us.tail _ _ i b (by omega) (by omega) h5) rfl
    · exact canG_inj ms us.tail (id + 1) _ i j b n2 (by omega) (by omega) (by omega) (by omega) h5 h6
  | .mu e t :: ms, us, id, g, i, j, b, hn, h1, h2, h3, h4, h5, h6 => by
    simp only [canG, cnt, blks] at hn h2 h4 h5 h6
    obtain ⟨n1, n2, n3⟩ := List.nodup_append.1 hn
    by_cases q1 : i = id <;> by_cases q2 : j = id
    · omega
    · exfalso
      rw [(canG_out ms us.tail (id + 1) _ i (by omega)).1] at h5
      subst q1
      simp only [upd_same] at h5
      exact n3 b (mem_toList_of h5) b (canG_in ms us.tail _ _ j b (by omega) (by omega) h6) rfl
    · exfalso
      rw [(canG_out ms us.tail (id + 1) _ j (by omega)).1] at h6
      subst q2
      simp only [upd_same] at h6
      exact n3 b (mem_toList_of h6) b (canG_in ms us.tail _ _ i b (by omega) (by omega) h5) rfl
    · exact canG_inj ms us.tail (id + 1) _ i j b n2 (by omega) (by omega) (by omega) (by omega) h5 h6
theorem owns_one {w : World} {e : TypeId} {sz n : Nat} {u : Value} {cs : List Value} (h : w.ownsRow 0 e sz u n cs) : u.oneCell' = true := by
  rcases h.2 with ⟨rfl, _⟩ | ⟨_, _, _, rfl, _⟩ <;> rfl
theorem owns_lt {w : World} {e : TypeId} {sz n : Nat} {u : Value} {cs : List Value} (h : w.ownsRow 0 e sz u n cs) {b : Nat} (hb : u.ownBlock = some b) : b < w.heap.size := by
  rcases h.2 with ⟨rfl, _⟩ | ⟨gg, _, _, rfl, _, hh, _⟩
  · cases hb
  · cases hb
    exact (Array.getElem?_eq_some_iff.1 hh).1
theorem RepK.imp {w : World} {S S' : Nat → Prop} (hS : ∀ b, S b → b < w.heap.size → S' b) {t : Ty} {xs : List t.D} {cs : List Value} (h : RepK w S t xs cs) : RepK w S' t xs cs :=
  ⟨h.1, fun i x hx => Ty.K_keep (fun b hb hl => ⟨hS b hb hl, rfl⟩) (h.2 i x hx)⟩
/-- What is handed over makes the state. -/
theorem can_R {s : St} {g : Gh} {w : World} {S : Nat → Prop} (hS : ∀ b, S b → b < w.heap.size → Sof s g b) : ∀ (ms : List Md) (x : MsD ms) (us : List Value) (id : Nat) (res : Nat → Res) (g0 : Gh),
    HR w S ms x us → (∀ j, id ≤ j → j < id + cnt ms → s.res j = canR ms x id res j ∧ g.blk j = (canG ms us id g0).blk j ∧ g.hdr j = (canG ms us id g0).hdr j) →
    LsR s g w (canL ms x id) us ∧ ∀ j, id ≤ j → j < id + cnt ms → ResR s g w j (s.res j) ∧ (s.res j).live = true
  | [], _, us, id, res, g0, h, _ => by
    simp only [HR] at h
    subst h
    exact ⟨trivial, fun j h1 h2 => by simp [cnt] at h2; omega⟩
  | .rd t :: ms, x, us, id, res, g0, ⟨c1, c2, h1, h2, h3⟩, hag => by
    subst h1
    have hd : (c1 ++ c2).drop t.sz = c2 := by rw [← Ty.K_len h2]; simp
    obtain ⟨k1, k2⟩ := can_R hS ms x.2 c2 id res g0 h3 (fun j q1 q2 => by have := hag j q1 q2; simp only [canR, canG, hd] at this; exact this)
    exact ⟨LsR.append (Ty.K_leafs (Ty.K_keep (fun b hb hl => ⟨hS b hb hl, rfl⟩) h2)) k1, k2⟩
  | .own e t :: ms, x, us, id, res, g0, ⟨u, c2, h1, ⟨cs, h2, h2'⟩, h3⟩, hag => by
    subst h1
    obtain ⟨k1, k2⟩ := can_R hS ms x.2 c2 (id + 1) _ _ h3 (fun j q1 q2 => by have := hag j (by omega) (by simp only [cnt]; omega); simp only [canR, canG, List.tail_cons] at this; exact this)
    obtain ⟨a1, a2, a3⟩ := hag id (Nat.le_refl _) (by simp only [cnt]; omega)
    simp only [canR, canG, List.tail_cons, List.head?_cons, List.headD_cons] at a1 a2 a3
    rw [canR_out ms x.2 (id + 1) _ id (by omega), upd_same] at a1
    rw [(canG_out ms c2 (id + 1) _ id (by omega)).1] at a2
    rw [(canG_out ms c2 (id + 1) _ id (by omega)).2] at a3
    simp only [upd_same] at a2 a3
    have hr : ResR s g w id (s.res id) := by
      rw [a1]
      exact ⟨cs, by rw [a3]; exact h2, h2'.imp hS, by rw [a2, a3]; rfl⟩
    refine ⟨⟨⟨?_, owns_one h2⟩, k1⟩, fun j q1 q2 => ?_⟩
    · simp only [LfR, a1]
      exact a3.symm
    · by_cases q : j = id
      · subst q
        exact ⟨hr, by rw [a1]; rfl⟩
      · exact k2 j (by omega) (by simp only [cnt] at q2; omega)
  | .bx T t :: ms, x, us, id, res, g0, ⟨b, c2, h1, ⟨cs, h2, h2'⟩, h3⟩, hag => by
    subst h1
    obtain ⟨k1, k2⟩ := can_R hS ms x.2 c2 (id + 1) _ _ h3 (fun j q1 q2 => by have := hag j (by omega) (by simp only [cnt]; omega); simp only [canR, canG, List.tail_cons] at this; exact this)
    obtain ⟨a1, a2, a3⟩ := hag id (Nat.le_refl _) (by simp only [cnt]; omega)
    simp only [canR, canG, List.tail_cons, List.head?_cons, List.headD_cons] at a1 a2 a3
    rw [canR_out ms x.2 (id + 1) _ id (by omega), upd_same] at a1
    rw [(canG_out ms c2 (id + 1) _ id (by omega)).1] at a2
    simp only [upd_same] at a2
    have a2' : g.blk id = some b := a2
    have hr : ResR s g w id (s.res id) := by
      rw [a1]
      exact ⟨b, cs, a2', h2, Ty.K_leafs (Ty.K_keep (fun b hb hl => ⟨hS b hb hl, rfl⟩) h2')⟩
    refine ⟨⟨⟨?_, rfl⟩, k1⟩, fun j q1 q2 => ?_⟩
    · simp only [LfR, a1]
      exact ⟨b, a2', rfl⟩
    · by_cases q : j = id
      · subst q
        exact ⟨hr, by rw [a1]; rfl⟩
      · exact k2 j (by omega) (by simp only [cnt] at q2; omega)
  | .mu e t :: ms, x, us, id, res, g0, ⟨u, c2, h1, ⟨cs, h2, h2'⟩, h3⟩, hag => by
    subst h1
    obtain ⟨k1, k2⟩ := can_R hS ms x.2 c2 (id + 1) _ _ h3 (fun j q1 q2 => by have := hag j (by omega) (by simp only [cnt]; omega); simp only [canR, canG, List.tail_cons] at this; exact this)
    obtain ⟨a1, a2, a3⟩ := hag id (Nat.le_refl _) (by simp only [cnt]; omega)
    simp only [canR, canG, List.tail_cons, List.head?_cons, List.headD_cons] at a1 a2 a3
    rw [canR_out ms x.2 (id + 1) _ id (by omega), upd_same] at a1
    rw [(canG_out ms c2 (id + 1) _ id (by omega)).1] at a2
    rw [(canG_out ms c2 (id + 1) _ id (by omega)).2] at a3
    simp only [upd_same] at a2 a3
    have hr : ResR s g w id (s.res id) := by
      rw [a1]
      exact ⟨cs, by rw [a3]; exact h2, h2'.imp hS, by rw [a2, a3]; rfl⟩
    refine ⟨⟨⟨?_, owns_one h2⟩, k1⟩, fun j q1 q2 => ?_⟩
    · simp only [LfR, a1]
      exact a3.symm
    · by_cases q : j = id
      · subst q
        exact ⟨hr, by rw [a1]; rfl⟩
      · exact k2 j (by omega) (by simp only [cnt] at q2; omega)
end Go.Proofs.Ytjoiklaecelalaa.R
