/- What is handed over at a call, told of the world alone, and the state that it makes. No condition. -/
import Derived.Test.YtkfoebbjncngjaaRMake6
namespace Go.Proofs.Ytkfoebbjncngjaa.R
open Go Go.RowKit
set_option linter.unusedVariables false
set_option linter.unusedSimpArgs false
inductive Md where
 | rd (t : Ty)
 | own (e : TypeId) (t : Ty)
 | bx (T : TypeId) (t : Ty)
 | mu (e : TypeId) (t : Ty)
def Md.D : Md → Type
 | .rd t => t.D
 | .own _ t => List t.D
 | .bx _ t => t.D
 | .mu _ t => List t.D
def Hn : List Md → Type
 | [] => Unit
 | m :: ms => m.D × Hn ms
def L2 : List Md → Type
 | [] => Unit
 | .rd _ :: ms => L2 ms
 | .own _ _ :: ms => L2 ms
 | .bx _ t :: ms => t.D × L2 ms
 | .mu _ t :: ms => List t.D × L2 ms
def Aad (w : World) (S : Nat → Prop) (e : TypeId) (t : Ty) (xs : List t.D) (u : Value) : Prop := ∃ cs, Ek w t 0 e t.sz u xs.length cs ∧ Cs w S t xs cs
def Ach (w : World) (S : Nat → Prop) (T : TypeId) (t : Ty) (x : t.D) (b : Nat) : Prop := ∃ cs, w.heap[b]? = some (.cells cs T (0, 0)) ∧ t.K w S x cs.toList
def HR (w : World) (S : Nat → Prop) : (ms : List Md) → Hn ms → List Value → Prop
 | [], _, us => us = []
 | .rd t :: ms, x, us => ∃ c1 c2, us = c1 ++ c2 ∧ t.K w S x.1 c1 ∧ HR w S ms x.2 c2
 | .own e t :: ms, x, us => ∃ u c2, us = u :: c2 ∧ Aad w S e t x.1 u ∧ HR w S ms x.2 c2
 | .bx T t :: ms, x, us => ∃ b c2, us = .pointer (some ⟨b, 0, none⟩) :: c2 ∧ Ach w S T t x.1 b ∧ HR w S ms x.2 c2
 | .mu e t :: ms, x, us => ∃ u c2, us = u :: c2 ∧ Aad w S e t x.1 u ∧ HR w S ms x.2 c2
def F0 : Value → Option Nat
 | .pointer (some a) => some a.block
 | _ => none
def Br : List Md → List Value → List Nat
 | [], _ => []
 | .rd t :: ms, us => Br ms (us.drop t.sz)
 | .own _ _ :: ms, us => ((us.head?).bind Value.ownBlock).toList ++ Br ms us.tail
 | .bx _ _ :: ms, us => ((us.head?).bind F0).toList ++ Br ms us.tail
 | .mu _ _ :: ms, us => ((us.head?).bind Value.ownBlock).toList ++ Br ms us.tail
def I9 : List Md → List Value → List Nat
 | [], _ => []
 | .rd t :: ms, us => I9 ms (us.drop t.sz)
 | .own _ _ :: ms, us => I9 ms us.tail
 | .bx _ _ :: ms, us => ((us.head?).bind F0).toList ++ I9 ms us.tail
 | .mu _ _ :: ms, us => ((us.head?).bind Value.ownBlock).toList ++ I9 ms us.tail
def Yn (w : World) (S : Nat → Prop) : (ms : List Md) → L2 ms → List Value → Prop
 | [], _, _ => True
 | .rd t :: ms, y, us => Yn w S ms y (us.drop t.sz)
 | .own _ _ :: ms, y, us => Yn w S ms y us.tail
 | .bx T t :: ms, y, us => (∃ b, us.head? = some (.pointer (some ⟨b, 0, none⟩)) ∧ Ach w S T t y.1 b) ∧ Yn w S ms y.2 us.tail
 | .mu e t :: ms, y, us => (∃ u, us.head? = some u ∧ Aad w S e t y.1 u) ∧ Yn w S ms y.2 us.tail
def Zk : List (Option Nat) → List Value → List Value → Prop
 | [], us, cs => us = [] ∧ cs = []
 | none :: sh, us, cs => ∃ u us' cs', us = u :: us' ∧ cs = u :: cs' ∧ u.oneCell' = true ∧ Zk sh us' cs'
 | some k :: sh, us, cs => ∃ c1 us' cs', us = .agg c1 :: us' ∧ cs = c1.toList ++ cs' ∧ c1.size = k ∧ Zk sh us' cs'
structure Sig where
 ps : List Md
 psh : List (Option Nat)
 rs : List Md
 rsh : List (Option Nat)
def Vz : List Value → Value
 | [v] => v
 | vs => .tuple vs.toArray
def Aa9 (w : World) (S : Nat → Prop) (bs : List Nat) : Prop := bs.Nodup ∧ ∀ b ∈ bs, b < w.heap.size ∧ ¬ S b
def Qb (w : World) (S : Nat → Prop) (bs gone : List Nat) : Nat → Prop := fun b => (S b ∨ b ∈ bs ∨ w.heap.size ≤ b) ∧ b ∉ gone
def J6 (P : Program) (f : FuncId) (sg : Sig) (den : Hn sg.ps → Option (Hn sg.rs × L2 sg.ps)) : Prop :=
 ∀ x r, den x = some r → ∀ (w : World) (S : Nat → Prop) (us args : List Value), HR w S sg.ps x us → Zk sg.psh args us → Aa9 w S (Br sg.ps us) →
  Calls P f args.toArray w fun e w' => ∃ vs us', e = .returned (Vz vs) ∧ Zk sg.rsh vs us' ∧ Em (Br sg.ps us) w w' ∧
   HR w' (Qb w S (Br sg.ps us) (Br sg.rs us' ++ I9 sg.ps us)) sg.rs r.1 us' ∧
   Yn w' (Qb w S (Br sg.ps us) (Br sg.rs us' ++ I9 sg.ps us)) sg.ps r.2 us ∧
   (Br sg.rs us' ++ I9 sg.ps us).Nodup ∧ ∀ b ∈ Br sg.rs us', b < w'.heap.size ∧ (b ∈ Br sg.ps us ∨ w.heap.size ≤ b)
def Dm : List Md → Nat
 | [] => 0
 | .rd _ :: ms => Dm ms
 | .own _ _ :: ms => Dm ms + 1
 | .bx _ _ :: ms => Dm ms + 1
 | .mu _ _ :: ms => Dm ms + 1
def V0 : (ms : List Md) → Hn ms → Nat → List Lf
 | [], _, _ => []
 | .rd t :: ms, x, id => t.leafs x.1 ++ V0 ms x.2 id
 | .own _ _ :: ms, x, id => .row id :: V0 ms x.2 (id + 1)
 | .bx _ _ :: ms, x, id => .ptr id 0 :: V0 ms x.2 (id + 1)
 | .mu _ _ :: ms, x, id => .row id :: V0 ms x.2 (id + 1)
def D7 : (ms : List Md) → Hn ms → Nat → (Nat → Res) → Nat → Res
 | [], _, _, res => res
 | .rd _ :: ms, x, id, res => D7 ms x.2 id res
 | .own e t :: ms, x, id, res => D7 ms x.2 (id + 1) (Hi res id (.row e t x.1))
 | .bx T t :: ms, x, id, res => D7 ms x.2 (id + 1) (Hi res id (.box T (t.leafs x.1)))
 | .mu e t :: ms, x, id, res => D7 ms x.2 (id + 1) (Hi res id (.row e t x.1))
def C4 : List Md → List Value → Nat → Gh → Gh
 | [], _, _, g => g
 | .rd t :: ms, us, id, g => C4 ms (us.drop t.sz) id g
 | .own _ _ :: ms, us, id, g => C4 ms us.tail (id + 1) ⟨Hi g.blk id ((us.head?).bind Value.ownBlock), Hi g.hdr id (us.headD undef), g.av⟩
 | .bx _ _ :: ms, us, id, g => C4 ms us.tail (id + 1) ⟨Hi g.blk id ((us.head?).bind F0), g.hdr, g.av⟩
 | .mu _ _ :: ms, us, id, g => C4 ms us.tail (id + 1) ⟨Hi g.blk id ((us.head?).bind Value.ownBlock), Hi g.hdr id (us.headD undef), g.av⟩
theorem Ct : ∀ (ms : List Md) (x : Hn ms) (id : Nat) (res : Nat → Res) (j : Nat), (j < id ∨ id + Dm ms ≤ j) → D7 ms x id res j = res j
 | [], _, _, _, _, _ => rfl
 | .rd _ :: ms, x, id, res, j, h => Ct ms x.2 id res j h
 | .own e t :: ms, x, id, res, j, h => by
  simp only [D7, Dm] at h ⊢
  rw [Ct ms x.2 _ _ j (by omega), Ad _ _ (by omega)]
 | .bx T t :: ms, x, id, res, j, h => by
  simp only [D7, Dm] at h ⊢
  rw [Ct ms x.2 _ _ j (by omega), Ad _ _ (by omega)]
 | .mu e t :: ms, x, id, res, j, h => by
  simp only [D7, Dm] at h ⊢
  rw [Ct ms x.2 _ _ j (by omega), Ad _ _ (by omega)]
theorem Ay : ∀ (ms : List Md) (us : List Value) (id : Nat) (g : Gh) (j : Nat), (j < id ∨ id + Dm ms ≤ j) → (C4 ms us id g).blk j = g.blk j ∧ (C4 ms us id g).hdr j = g.hdr j
 | [], _, _, _, _, _ => ⟨rfl, rfl⟩
 | .rd t :: ms, us, id, g, j, h => Ay ms _ id g j h
 | .own e t :: ms, us, id, g, j, h => by
  simp only [C4, Dm] at h ⊢
  obtain ⟨h1, h2⟩ := Ay ms us.tail (id + 1) ⟨Hi g.blk id ((us.head?).bind Value.ownBlock), Hi g.hdr id (us.headD undef), g.av⟩ j (by omega)
  rw [h1, h2]
  exact ⟨Ad _ _ (by omega), Ad _ _ (by omega)⟩
 | .bx T t :: ms, us, id, g, j, h => by
  simp only [C4, Dm] at h ⊢
  obtain ⟨h1, h2⟩ := Ay ms us.tail (id + 1) ⟨Hi g.blk id ((us.head?).bind F0), g.hdr, g.av⟩ j (by omega)
  rw [h1, h2]
  exact ⟨Ad _ _ (by omega), rfl⟩
 | .mu e t :: ms, us, id, g, j, h => by
  simp only [C4, Dm] at h ⊢
  obtain ⟨h1, h2⟩ := Ay ms us.tail (id + 1) ⟨Hi g.blk id ((us.head?).bind Value.ownBlock), Hi g.hdr id (us.headD undef), g.av⟩ j (by omega)
  rw [h1, h2]
  exact ⟨Ad _ _ (by omega), Ad _ _ (by omega)⟩
theorem Ja : ∀ (ms : List Md) (us : List Value) (id : Nat) (g : Gh), (C4 ms us id g).av = g.av
 | [], _, _, _ => rfl
 | .rd t :: ms, us, id, g => Ja ms _ id g
 | .own _ _ :: ms, us, id, g => Ja ms _ _ _
 | .bx _ _ :: ms, us, id, g => Ja ms _ _ _
 | .mu _ _ :: ms, us, id, g => Ja ms _ _ _
theorem Bg {o : Option Nat} {b : Nat} (h : o = some b) : b ∈ o.toList := by subst h; simp
theorem Dy : ∀ (ms : List Md) (us : List Value) (id : Nat) (g : Gh) (j b : Nat), id ≤ j → j < id + Dm ms → (C4 ms us id g).blk j = some b → b ∈ Br ms us
 | [], _, _, _, j, b, h1, h2, _ => by simp [Dm] at h2; omega
 | .rd t :: ms, us, id, g, j, b, h1, h2, h => Dy ms _ id g j b h1 h2 h
 | .own e t :: ms, us, id, g, j, b, h1, h2, h => by
  simp only [C4, Dm, Br] at h h2 ⊢
  by_cases q : j = id
  ·rw [(Ay ms us.tail (id + 1) _ j (by omega)).1] at h
   subst q
   simp only [Ai] at h
   exact List.mem_append_left _ (Bg h)
  ·exact List.mem_append_right _ (Dy ms us.tail (id + 1) _ j b (by omega) (by omega) h)
 | .bx T t :: ms, us, id, g, j, b, h1, h2, h => by
  simp only [C4, Dm, Br] at h h2 ⊢
  by_cases q : j = id
  ·rw [(Ay ms us.tail (id + 1) _ j (by omega)).1] at h
   subst q
   simp only [Ai] at h
   exact List.mem_append_left _ (Bg h)
  ·exact List.mem_append_right _ (Dy ms us.tail (id + 1) _ j b (by omega) (by omega) h)
 | .mu e t :: ms, us, id, g, j, b, h1, h2, h => by
  simp only [C4, Dm, Br] at h h2 ⊢
  by_cases q : j = id
  ·rw [(Ay ms us.tail (id + 1) _ j (by omega)).1] at h
   subst q
   simp only [Ai] at h
   exact List.mem_append_left _ (Bg h)
  ·exact List.mem_append_right _ (Dy ms us.tail (id + 1) _ j b (by omega) (by omega) h)
theorem Ih : ∀ (ms : List Md) (us : List Value) (id : Nat) (g : Gh) (i j b : Nat), (Br ms us).Nodup → id ≤ i → i < id + Dm ms → id ≤ j → j < id + Dm ms →
  (C4 ms us id g).blk i = some b → (C4 ms us id g).blk j = some b → i = j
 | [], _, _, _, _, _, _, _, h1, h2, _, _, _, _ => by simp [Dm] at h2; omega
 | .rd t :: ms, us, id, g, i, j, b, hn, h1, h2, h3, h4, h5, h6 => Ih ms _ id g i j b hn h1 h2 h3 h4 h5 h6
 | .own e t :: ms, us, id, g, i, j, b, hn, h1, h2, h3, h4, h5, h6 => by
  simp only [C4, Dm, Br] at hn h2 h4 h5 h6
  obtain ⟨n1, n2, n3⟩ := List.nodup_append.1 hn
  by_cases q1 : i = id <;> by_cases q2 : j = id
  ·omega
  ·exfalso
   rw [(Ay ms us.tail (id + 1) _ i (by omega)).1] at h5
   subst q1
   simp only [Ai] at h5
   exact n3 b (Bg h5) b (Dy ms us.tail _ _ j b (by omega) (by omega) h6) rfl
  ·exfalso
   rw [(Ay ms us.tail (id + 1) _ j (by omega)).1] at h6
   subst q2
   simp only [Ai] at h6
   exact n3 b (Bg h6) b (Dy ms us.tail _ _ i b (by omega) (by omega) h5) rfl
  ·exact Ih ms us.tail (id + 1) _ i j b n2 (by omega) (by omega) (by omega) (by omega) h5 h6
 | .bx T t :: ms, us, id, g, i, j, b, hn, h1, h2, h3, h4, h5, h6 => by
  simp only [C4, Dm, Br] at hn h2 h4 h5 h6
  obtain ⟨n1, n2, n3⟩ := List.nodup_append.1 hn
  by_cases q1 : i = id <;> by_cases q2 : j = id
  ·omega
  ·exfalso
   rw [(Ay ms us.tail (id + 1) _ i (by omega)).1] at h5
   subst q1
   simp only [Ai] at h5
   exact n3 b (Bg h5) b (Dy ms us.tail _ _ j b (by omega) (by omega) h6) rfl
  ·exfalso
   rw [(Ay ms us.tail (id + 1) _ j (by omega)).1] at h6
   subst q2
   simp only [Ai] at h6
   exact n3 b (Bg h6) b (Dy ms us.tail _ _ i b (by omega) (by omega) h5) rfl
  ·exact Ih ms us.tail (id + 1) _ i j b n2 (by omega) (by omega) (by omega) (by omega) h5 h6
 | .mu e t :: ms, us, id, g, i, j, b, hn, h1, h2, h3, h4, h5, h6 => by
  simp only [C4, Dm, Br] at hn h2 h4 h5 h6
  obtain ⟨n1, n2, n3⟩ := List.nodup_append.1 hn
  by_cases q1 : i = id <;> by_cases q2 : j = id
  ·omega
  ·exfalso
   rw [(Ay ms us.tail (id + 1) _ i (by omega)).1] at h5
   subst q1
   simp only [Ai] at h5
   exact n3 b (Bg h5) b (Dy ms us.tail _ _ j b (by omega) (by omega) h6) rfl
  ·exfalso
   rw [(Ay ms us.tail (id + 1) _ j (by omega)).1] at h6
   subst q2
   simp only [Ai] at h6
   exact n3 b (Bg h6) b (Dy ms us.tail _ _ i b (by omega) (by omega) h5) rfl
  ·exact Ih ms us.tail (id + 1) _ i j b n2 (by omega) (by omega) (by omega) (by omega) h5 h6
theorem W2 {w : World} {t : Ty} {e : TypeId} {sz n : Nat} {u : Value} {cs : List Value} (h : Ek w t 0 e sz u n cs) : u.oneCell' = true := by
 rcases h.2 with ⟨rfl, _⟩ | ⟨_, _, _, rfl, _⟩ <;> rfl
theorem Cs.imp {w : World} {S S' : Nat → Prop} (hS : ∀ b, S b → b < w.heap.size → S' b) {t : Ty} {xs : List t.D} {cs : List Value} (h : Cs w S t xs cs) : Cs w S' t xs cs :=
 ⟨h.1, fun i x hx => Ty.K_keep (fun b hb hl => ⟨hS b hb hl, rfl⟩) (h.2 i x hx)⟩
theorem Uo {s : St} {g : Gh} {w : World} {S : Nat → Prop} (hS : ∀ b, S b → b < w.heap.size → Bl s g b) : ∀ (ms : List Md) (x : Hn ms) (us : List Value) (id : Nat) (res : Nat → Res) (g0 : Gh),
  HR w S ms x us → (∀ j, id ≤ j → j < id + Dm ms → s.res j = D7 ms x id res j ∧ g.blk j = (C4 ms us id g0).blk j ∧ g.hdr j = (C4 ms us id g0).hdr j) →
  Ch s g w (V0 ms x id) us ∧ ∀ j, id ≤ j → j < id + Dm ms → Dx s g w j (s.res j) ∧ (s.res j).live = true
 | [], _, us, id, res, g0, h, _ => by
  simp only [HR] at h
  subst h
  exact ⟨trivial, fun j h1 h2 => by simp [Dm] at h2; omega⟩
 | .rd t :: ms, x, us, id, res, g0, ⟨c1, c2, h1, h2, h3⟩, hag => by
  subst h1
  have hd : (c1 ++ c2).drop t.sz = c2 := by rw [← Ty.K_len h2]; simp
  obtain ⟨k1, k2⟩ := Uo hS ms x.2 c2 id res g0 h3 (fun j q1 q2 => by have := hag j q1 q2; simp only [D7, C4, hd] at this; exact this)
  exact ⟨Ch.append (Ty.K_leafs (Ty.K_keep (fun b hb hl => ⟨hS b hb hl, rfl⟩) h2)) k1, k2⟩
 | .own e t :: ms, x, us, id, res, g0, ⟨u, c2, h1, ⟨cs, h2, h2'⟩, h3⟩, hag => by
  subst h1
  obtain ⟨k1, k2⟩ := Uo hS ms x.2 c2 (id + 1) _ _ h3 (fun j q1 q2 => by have := hag j (by omega) (by simp only [Dm]; omega); simp only [D7, C4, List.tail_cons] at this; exact this)
  obtain ⟨a1, a2, a3⟩ := hag id (Nat.le_refl _) (by simp only [Dm]; omega)
  simp only [D7, C4, List.tail_cons, List.head?_cons, List.headD_cons] at a1 a2 a3
  rw [Ct ms x.2 (id + 1) _ id (by omega), Ai] at a1
  rw [(Ay ms c2 (id + 1) _ id (by omega)).1] at a2
  rw [(Ay ms c2 (id + 1) _ id (by omega)).2] at a3
  simp only [Ai] at a2 a3
  have hr : Dx s g w id (s.res id) := by
   rw [a1]
   exact ⟨cs, by rw [a3]; exact h2, h2'.imp hS, by rw [a2, a3]; rfl⟩
  refine ⟨⟨⟨?_, W2 h2⟩, k1⟩, fun j q1 q2 => ?_⟩
  ·simp only [Ba, a1]
   exact a3.symm
  ·by_cases q : j = id
   ·subst q
    exact ⟨hr, by rw [a1]; rfl⟩
   ·exact k2 j (by omega) (by simp only [Dm] at q2; omega)
 | .bx T t :: ms, x, us, id, res, g0, ⟨b, c2, h1, ⟨cs, h2, h2'⟩, h3⟩, hag => by
  subst h1
  obtain ⟨k1, k2⟩ := Uo hS ms x.2 c2 (id + 1) _ _ h3 (fun j q1 q2 => by have := hag j (by omega) (by simp only [Dm]; omega); simp only [D7, C4, List.tail_cons] at this; exact this)
  obtain ⟨a1, a2, a3⟩ := hag id (Nat.le_refl _) (by simp only [Dm]; omega)
  simp only [D7, C4, List.tail_cons, List.head?_cons, List.headD_cons] at a1 a2 a3
  rw [Ct ms x.2 (id + 1) _ id (by omega), Ai] at a1
  rw [(Ay ms c2 (id + 1) _ id (by omega)).1] at a2
  simp only [Ai] at a2
  have a2' : g.blk id = some b := a2
  have hr : Dx s g w id (s.res id) := by
   rw [a1]
   exact ⟨b, cs, a2', h2, Ty.K_leafs (Ty.K_keep (fun b hb hl => ⟨hS b hb hl, rfl⟩) h2')⟩
  refine ⟨⟨⟨?_, rfl⟩, k1⟩, fun j q1 q2 => ?_⟩
  ·simp only [Ba, a1]
   exact ⟨b, a2', rfl⟩
  ·by_cases q : j = id
   ·subst q
    exact ⟨hr, by rw [a1]; rfl⟩
   ·exact k2 j (by omega) (by simp only [Dm] at q2; omega)
 | .mu e t :: ms, x, us, id, res, g0, ⟨u, c2, h1, ⟨cs, h2, h2'⟩, h3⟩, hag => by
  subst h1
  obtain ⟨k1, k2⟩ := Uo hS ms x.2 c2 (id + 1) _ _ h3 (fun j q1 q2 => by have := hag j (by omega) (by simp only [Dm]; omega); simp only [D7, C4, List.tail_cons] at this; exact this)
  obtain ⟨a1, a2, a3⟩ := hag id (Nat.le_refl _) (by simp only [Dm]; omega)
  simp only [D7, C4, List.tail_cons, List.head?_cons, List.headD_cons] at a1 a2 a3
  rw [Ct ms x.2 (id + 1) _ id (by omega), Ai] at a1
  rw [(Ay ms c2 (id + 1) _ id (by omega)).1] at a2
  rw [(Ay ms c2 (id + 1) _ id (by omega)).2] at a3
  simp only [Ai] at a2 a3
  have hr : Dx s g w id (s.res id) := by
   rw [a1]
   exact ⟨cs, by rw [a3]; exact h2, h2'.imp hS, by rw [a2, a3]; rfl⟩
  refine ⟨⟨⟨?_, W2 h2⟩, k1⟩, fun j q1 q2 => ?_⟩
  ·simp only [Ba, a1]
   exact a3.symm
  ·by_cases q : j = id
   ·subst q
    exact ⟨hr, by rw [a1]; rfl⟩
   ·exact k2 j (by omega) (by simp only [Dm] at q2; omega)
end Go.Proofs.Ytkfoebbjncngjaa.R

