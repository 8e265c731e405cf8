/- A state, told anew: what is named is numbered by its place. No condition. -/
import Derived.Test.YtkfoebbjncngjaaRAny
namespace Go.Proofs.Ytkfoebbjncngjaa.R
open Go Go.RowKit
set_option linter.unusedVariables false
set_option linter.unusedSimpArgs false
def V5 (l : List (Nat × AV)) (i : Nat) : AV := match l with
 | [] => .dead
 | (j, v) :: r => bif Nat.beq j i then v else V5 r i
def S4 (l : List Res) (i : Nat) : Res := match l, i with
 | [], _ => .unborn
 | r :: _, 0 => r
 | _ :: l, i + 1 => S4 l i
def V6 (cs : List (Nat × AV)) (rs : List Res) : St := ⟨V5 cs, S4 rs⟩
def Hd (us : List Nat) (id : Nat) : Option Nat := match us with
 | [] => none
 | j :: r => bif Nat.beq j id then some 0 else (Hd r id).map (· + 1)
def Qz (s : St) (us : List Nat) : Lf → Option Lf
 | .c v => some (.c v)
 | .sl t xs => some (.sl t xs)
 | .row id => match s.res id with
  | .frozen t xs => some (.sl t xs)
  | _ => (Hd us id).map .row
 | .ptr id off => (Hd us id).map fun j => .ptr j off
 | .ep t xs i off => some (.ep t xs i off)
 | .rp id i off => (Hd us id).map fun j => .rp j i off
 | .sp id => (Hd us id).map fun j => .sp j
def Mk (s : St) (us : List Nat) : List Lf → Option (List Lf)
 | [] => some []
 | l :: r => (Qz s us l).bind fun l' => (Mk s us r).map fun r' => l' :: r'
def Y0 (s : St) (us : List Nat) : Vl → Option Vl
 | .lf l => (Qz s us l).map .lf
 | .ag ls => (Mk s us ls).map .ag
def Nm (s : St) (us : List Nat) : List Vl → Option (List Vl)
 | [] => some []
 | l :: r => (Y0 s us l).bind fun l' => (Nm s us r).map fun r' => l' :: r'
def Q0 (s : St) (us : List Nat) : AV → AV
 | .dead => .dead
 | .vl v => match Y0 s us v with
  | some v => .vl v
  | none => .dead
 | .tp vs => match Nm s us vs with
  | some vs => .tp vs
  | none => .dead
 | .fn f ls => match Mk s us ls with
  | some ls => .fn f ls
  | none => .dead
def A2 (s : St) (us : List Nat) : Res → Res
 | .box T ls => match Mk s us ls with
  | some ls => .box T ls
  | none => .dead
 | .last e t xs c j => match Hd us j with
  | some j' => .last e t xs c j'
  | none => .dead
 | r => r
def Ml (s : St) : List Lf → List Nat
 | [] => []
 | .row id :: r => match s.res id with
  | .frozen _ _ => Ml s r
  | _ => id :: Ml s r
 | .ptr id _ :: r => id :: Ml s r
 | .rp id _ _ :: r => id :: Ml s r
 | .sp id :: r => id :: Ml s r
 | _ :: r => Ml s r
def Y1 : List Vl → List Lf
 | [] => []
 | v :: r => v.ls ++ Y1 r
def Aca : AV → List Lf
 | .dead => []
 | .vl v => v.ls
 | .tp vs => Y1 vs
 | .fn _ ls => ls
def S5 (s : St) : List Nat → List Lf
 | [] => []
 | i :: r => Aca (s.cell i) ++ S5 s r
def Uo (s : St) : List Nat → List Lf
 | [] => []
 | i :: r => (match s.res i with | .box _ ls => ls | .last _ _ _ _ j => [.row j] | _ => []) ++ Uo s r
def Q1 (us : List Nat) : List Nat → List Nat
 | [] => us
 | i :: r => if Cw us i then Q1 us r else Q1 (us ++ [i]) r
def Adi (n : Nat) : List Nat := List.range n
def Pp (s : St) (np : Nat) (live : List Nat) : List Nat :=
 let l0 := Q1 (Adi np) (Ml s (S5 s live))
 let l1 := Q1 l0 (Ml s (Uo s l0))
 Q1 l1 (Ml s (Uo s l1))
def Up (s : St) (us : List Nat) : List Nat → List (Nat × AV)
 | [] => []
 | i :: r => (i, Q0 s us (s.cell i)) :: Up s us r
def R8 (s : St) (us : List Nat) : List Nat → List Res
 | [] => []
 | i :: r => A2 s us (s.res i) :: R8 s us r
def J4 : Nat → Nat → List Nat → Bool
 | _, 0, _ => true
 | k, m + 1, i :: r => Nat.beq i k && J4 (k + 1) m r
 | _, _ + 1, [] => false
def canon (np : Nat) (live : List Nat) (s : St) : Option (St × Nat) :=
 let us := Pp s np live
 if Fz us && J4 0 np us then some (V6 (Up s us live) (R8 s us us), us.length) else none
section
variable {P : Program} {n B : Nat} {Iq : List Nat} {s : St} {g : Gh} {a : Act} {w : World}
theorem S6 {us : List Nat} {id j : Nat} (h : Hd us id = some j) : us[j]? = some id := by
 induction us generalizing j with
 | nil => simp [Hd] at h
 | cons k r ih =>
  simp only [Hd] at h
  cases hq : Nat.beq k id with
  | true =>
   rw [hq] at h
   simp at h
   subst h
   simp [Nat.eq_of_beq_eq_true hq]
  | false =>
   rw [hq] at h
   simp only [cond_false] at h
   obtain ⟨i, h1, rfl⟩ := Option.map_eq_some_iff.1 h
   simpa using ih h1
theorem S7 {us' : List Nat} : ∀ {us : List Nat} {j : Nat}, S4 (R8 s us' us) j = match us[j]? with | some id => A2 s us' (s.res id) | none => .unborn
 | [], _ => by simp [R8, S4]
 | i :: r, 0 => by simp [R8, S4]
 | i :: r, j + 1 => by
  simp only [R8, S4]
  rw [S7 (us := r)]
  simp
theorem S8 {us : List Nat} : ∀ {l : List Nat} {i : Nat}, V5 (Up s us l) i = if i ∈ l then Q0 s us (s.cell i) else .dead
 | [], i => by simp [Up, V5]
 | j :: r, i => by
  simp only [Up, V5]
  cases hq : Nat.beq j i with
  | true =>
   have := Nat.eq_of_beq_eq_true hq
   subst this
   simp
  | false =>
   have : j ≠ i := fun e => by subst e; simp at hq
   simp only [cond_false]
   rw [S8 (l := r)]
   simp [Ne.symm this]
section
variable {us live : List Nat}
def Ey (s : St) (us : List Nat) (g : Gh) : Gh := ⟨fun j => match us[j]? with | some id => if (A2 s us (s.res id)).live then g.blk id else none | none => none, fun j => match us[j]? with | some id => g.hdr id | none => undef, g.av⟩
theorem l9 {r : Res} (h : (A2 s us r).live = true) : r.live = true := by
 cases r <;> simp only [A2] at h <;> first | exact h | rfl
theorem m5 {s' : St} (hs : ∀ j, s'.res j = match us[j]? with | some id => A2 s us (s.res id) | none => .unborn) (b : Nat) (hb : Bd s g b) : Bd s' (Ey s us g) b := by
 refine ⟨hb.1, fun j hl hk => ?_⟩
 rw [hs] at hl
 simp only [Ey] at hk
 cases hu : us[j]? with
 | none => rw [hu] at hl; cases hl
 | some id =>
  rw [hu] at hl hk
  simp only at hl hk
  rw [if_pos hl] at hk
  exact hb.2 id (l9 hl) hk
theorem Y2 {s' : St} (hs : ∀ j, s'.res j = match us[j]? with | some id => A2 s us (s.res id) | none => .unborn) (hres : ∀ id, C3 s g w id (s.res id)) :
  ∀ {l l' : Lf} {u : Value}, Qz s us l = some l' → A1 s g w l u → A1 s' (Ey s us g) w l' u := by
 have hS : ∀ b, Bd s g b → b < w.heap.size → Bd s' (Ey s us g) b ∧ w.heap[b]? = w.heap[b]? := fun b hb _ => ⟨m5 hs b hb, rfl⟩
 have hat : ∀ {id j : Nat}, Hd us id = some j → s'.res j = A2 s us (s.res id) ∧ (Ey s us g).hdr j = g.hdr id ∧ ((A2 s us (s.res id)).live = true → (Ey s us g).blk j = g.blk id) := by
  intro id j h
  have hu := S6 h
  refine ⟨by rw [hs, hu], by simp only [Ey, hu], fun hl => by simp only [Ey, hu]; rw [if_pos hl]⟩
 intro l l' u h hl
 cases l with
 | c v => cases h; exact hl
 | sl t xs => cases h; exact Ty.K_keep hS hl
 | row id =>
  simp only [Qz] at h
  split at h
  ·rename_i t xs hr
   cases h
   have r := hres id
   rw [hr] at r
   simp only [A1, hr] at hl
   rw [hl]
   exact Ty.K_keep hS r.1
  ·rename_i hn
   obtain ⟨j, h1, rfl⟩ := Option.map_eq_some_iff.1 h
   obtain ⟨a1, a2, a3⟩ := hat h1
   simp only [A1] at hl ⊢
   rw [a1, a2]
   cases hr : s.res id with
   | unborn => rw [hr] at hl; exact hl.elim
   | dead => trivial
   | box T ls => rw [hr] at hl; exact hl.elim
   | row e t xs => rw [hr] at hl; exact hl
   | frozen t xs => exact absurd hr (hn t xs)
   | last e t xs c k =>
    rw [hr] at hl
    simp only [A2]
    cases hq : Hd us k with
    | none => trivial
    | some k' => exact hl
   | map t xs => rw [hr] at hl; exact hl
   | iter t xs seen cur => rw [hr] at hl; exact hl
 | ptr id off =>
  simp only [Qz] at h
  obtain ⟨j, h1, rfl⟩ := Option.map_eq_some_iff.1 h
  obtain ⟨a1, a2, a3⟩ := hat h1
  simp only [A1] at hl ⊢
  rw [a1]
  cases hr : s.res id with
  | unborn => rw [hr] at hl; exact hl.elim
  | dead => trivial
  | box T ls =>
   rw [hr] at hl a3
   simp only [A2] at a3 ⊢
   cases hq : Mk s us ls with
   | none => trivial
   | some ls' =>
    rw [hq] at a3
    obtain ⟨b, hb, hu⟩ := hl
    exact ⟨b, (a3 rfl).trans hb, hu⟩
  | row e t xs => rw [hr] at hl; exact hl.elim
  | frozen t xs => rw [hr] at hl; exact hl.elim
  | last _ _ _ _ _ => rw [hr] at hl; exact hl.elim
  | map _ _ => rw [hr] at hl; exact hl.elim
  | iter _ _ _ _ => rw [hr] at hl; exact hl.elim
 | ep t xs i off =>
  cases h
  obtain ⟨ad, cs, h1, h2, h3, h4, h5⟩ := hl
  exact ⟨ad, cs, h1, m5 hs _ h2, h3, Ty.K_keep hS h4, h5⟩
 | rp id i off =>
  simp only [Qz] at h
  obtain ⟨j, h1, rfl⟩ := Option.map_eq_some_iff.1 h
  obtain ⟨a1, a2, a3⟩ := hat h1
  simp only [A1] at hl ⊢
  rw [a1]
  cases hr : s.res id with
  | unborn => rw [hr] at hl; exact hl.elim
  | dead => trivial
  | box T ls => rw [hr] at hl; exact hl.elim
  | row e t xs =>
   rw [hr] at hl a3
   obtain ⟨hi, b, hb, hu⟩ := hl
   exact ⟨hi, b, (a3 rfl).trans hb, hu⟩
  | frozen t xs => trivial
  | last e t xs c k =>
   rw [hr] at hl a3
   simp only [A2] at a3 ⊢
   cases hq : Hd us k with
   | none => trivial
   | some k' =>
    rw [hq] at a3
    obtain ⟨hi, b, hb, hu⟩ := hl
    exact ⟨hi, b, (a3 rfl).trans hb, hu⟩
  | map _ _ => rw [hr] at hl; exact hl.elim
  | iter _ _ _ _ => rw [hr] at hl; exact hl.elim
 | sp id =>
  simp only [Qz] at h
  obtain ⟨j, h1, rfl⟩ := Option.map_eq_some_iff.1 h
  obtain ⟨a1, a2, a3⟩ := hat h1
  simp only [A1] at hl ⊢
  rw [a1]
  cases hr : s.res id with
  | unborn => rw [hr] at hl; exact hl.elim
  | dead => trivial
  | box T ls =>
   rw [hr] at hl a3
   simp only [A2] at a3 ⊢
   cases hq : Mk s us ls with
   | none => trivial
   | some ls' =>
    rw [hq] at a3
    rcases hl with hl | ⟨b, hb, hu⟩
    ·exact .inl hl
    ·exact .inr ⟨b, (a3 rfl).trans hb, hu⟩
  | row e t xs => rw [hr] at hl; exact hl.elim
  | frozen t xs => rw [hr] at hl; exact hl.elim
  | last _ _ _ _ _ => rw [hr] at hl; exact hl.elim
  | map _ _ => rw [hr] at hl; exact hl.elim
  | iter _ _ _ _ => rw [hr] at hl; exact hl.elim
section
variable {s' : St} (hs : ∀ j, s'.res j = match us[j]? with | some id => A2 s us (s.res id) | none => .unborn) (hres : ∀ id, C3 s g w id (s.res id))
 include hs hres
theorem Pq : ∀ {ls ls' : List Lf} {cs : List Value}, Mk s us ls = some ls' → Bt s g w ls cs → Bt s' (Ey s us g) w ls' cs
 | [], ls', [], h, _ => by cases h; trivial
 | [], _, _ :: _, _, h => h.elim
 | _ :: _, _, [], _, h => h.elim
 | l :: r, ls', c :: cs, h, hL => by
  simp only [Mk] at h
  obtain ⟨l', h1, h2⟩ := Option.bind_eq_some_iff.1 h
  obtain ⟨r', h3, rfl⟩ := Option.map_eq_some_iff.1 h2
  exact ⟨⟨Y2 hs hres h1 hL.1.1, hL.1.2⟩, Pq h3 hL.2⟩
theorem Y3 {v v' : Vl} {u : Value} (h : Y0 s us v = some v') (hv : Lp s g w v u) : Lp s' (Ey s us g) w v' u := by
 cases v with
 | lf l =>
  obtain ⟨l', h1, rfl⟩ := Option.map_eq_some_iff.1 h
  exact ⟨Y2 hs hres h1 hv.1, hv.2⟩
 | ag ls =>
  obtain ⟨l', h1, rfl⟩ := Option.map_eq_some_iff.1 h
  obtain ⟨cs, e1, e2⟩ := hv
  exact ⟨cs, e1, Pq hs hres h1 e2⟩
 omit hs hres in
theorem Q2 : ∀ {vs vs' : List Vl} {j : Nat} {v' : Vl}, Nm s us vs = some vs' → vs'[j]? = some v' → ∃ v, vs[j]? = some v ∧ Y0 s us v = some v'
 | [], vs', j, v', h, hj => by cases h; simp at hj
 | v :: r, vs', j, v', h, hj => by
  simp only [Nm] at h
  obtain ⟨l', h1, h2⟩ := Option.bind_eq_some_iff.1 h
  obtain ⟨r', h3, rfl⟩ := Option.map_eq_some_iff.1 h2
  cases j with
  | zero => simp at hj; subst hj; exact ⟨v, rfl, h1⟩
  | succ j =>
   obtain ⟨x, e1, e2⟩ := Q2 h3 (j := j) (by simpa using hj)
   exact ⟨x, by simpa using e1, e2⟩
 omit hs hres in
theorem Q3 : ∀ {vs vs' : List Vl}, Nm s us vs = some vs' → vs'.length = vs.length
 | [], vs', h => by cases h; rfl
 | v :: r, vs', h => by
  simp only [Nm] at h
  obtain ⟨l', h1, h2⟩ := Option.bind_eq_some_iff.1 h
  obtain ⟨r', h3, rfl⟩ := Option.map_eq_some_iff.1 h2
  simp [Q3 h3]
theorem Aam {v : AV} {u : Value} (hv : G0 s g w v u) : G0 s' (Ey s us g) w (Q0 s us v) u := by
 cases v with
 | dead => trivial
 | vl v =>
  simp only [Q0]
  split
  ·rename_i v' h
   exact Y3 hs hres h hv
  ·trivial
 | tp vs =>
  simp only [Q0]
  split
  ·rename_i vs' h
   obtain ⟨cs, h1, h2, h3⟩ := hv
   refine ⟨cs, h1, by rw [Q3 h]; exact h2, fun j l hl => ?_⟩
   obtain ⟨v, e1, e2⟩ := Q2 h hl
   obtain ⟨x, e3, e4⟩ := h3 j v e1
   exact ⟨x, e3, Y3 hs hres e2 e4⟩
  ·trivial
 | fn f ls =>
  simp only [Q0]
  split
  ·rename_i ls' h
   obtain ⟨cs, h1, h2⟩ := hv
   exact ⟨cs, h1, Pq hs hres h h2⟩
  ·trivial
end
end
theorem m6 (h : As n B Iq s g a w) {np : Nat} {live : List Nat} {s' : St} {nid : Nat} (e : canon np live s = some (s', nid)) :
  ∃ g', As n B Iq s' g' a w ∧ g'.av = g.av ∧ ∀ id, id < np → (s'.res id = .unborn → s.res id = .unborn) ∧ (∀ T ls, s'.res id = .box T ls → (∃ T' ls', s.res id = .box T' ls') ∧ g'.blk id = g.blk id) ∧ (∀ e, ∀ t : Ty, ∀ xs : List t.D, s'.res id = .row e t xs → (∃ e', ∃ xs' : List t.D, s.res id = .row e' t xs') ∧ g'.blk id = g.blk id ∧ g'.hdr id = g.hdr id) := by
 unfold canon at e
 dsimp only at e
 generalize hus : Pp s np live = us at e
 split at e <;> cases e
 rename_i hc
 simp only [Bool.and_eq_true] at hc
 have hnd := L0 hc.1
 have hs : ∀ j, (V6 (Up s us live) (R8 s us us)).res j = match us[j]? with | some id => A2 s us (s.res id) | none => .unborn := fun j => S7
 have hcell : ∀ i, (V6 (Up s us live) (R8 s us us)).cell i = if i ∈ live then Q0 s us (s.cell i) else .dead := fun i => S8
 generalize V6 (Up s us live) (R8 s us us) = s' at hs hcell ⊢
 have hst : ∀ k m l, J4 k m l = true → ∀ j, j < m → l[j]? = some (k + j) := by
  intro k m
  induction m generalizing k with
  | zero => intro l _ j hj; omega
  | succ m ih =>
   intro l hl j hj
   cases l with
   | nil => simp [J4] at hl
   | cons i r =>
    simp only [J4, Bool.and_eq_true] at hl
    cases j with
    | zero => simp [Nat.eq_of_beq_eq_true hl.1]
    | succ j =>
     have := ih (k + 1) r hl.2 j (by omega)
     rw [List.getElem?_cons_succ, this]
     congr 1
     omega
 have hpin : ∀ id, id < np → us[id]? = some id := fun id hid => by have := hst 0 np us hc.2 id hid; simpa using this
 have blk_of : ∀ j b, (Ey s us g).blk j = some b → ∃ id, us[j]? = some id ∧ g.blk id = some b ∧ (A2 s us (s.res id)).live = true := by
  intro j b hb
  simp only [Ey] at hb
  cases hu : us[j]? with
  | none => rw [hu] at hb; cases hb
  | some id =>
   rw [hu] at hb
   simp only at hb
   split at hb
   ·rename_i hl
    exact ⟨id, rfl, hb, hl⟩
   ·cases hb
 refine ⟨Ey s us g, ⟨h.size, h.defers, h.base, fun i => ?_, fun j => ?_, fun i j b hi hj => ?_, fun j b hb => ?_, h.avB⟩, rfl, fun id hid => ?_⟩
 ·rw [hcell]
  split
  ·exact Aam hs h.res (h.cell i)
  ·trivial
 ·rw [hs]
  cases hu : us[j]? with
  | none => show (Ey s us g).blk j = none; simp only [Ey, hu]
  | some id =>
   simp only
   have r := h.res id
   have hblk : (Ey s us g).blk j = if (A2 s us (s.res id)).live then g.blk id else none := by simp only [Ey, hu]
   have hhdr : (Ey s us g).hdr j = g.hdr id := by simp only [Ey, hu]
   have hSS : ∀ b, Bd s g b → b < w.heap.size → Bd s' (Ey s us g) b := fun b hb _ => m5 hs b hb
   cases hr : s.res id with
   | unborn => rw [hr] at hblk; exact hblk
   | dead => rw [hr] at hblk; exact hblk
   | box T ls =>
    rw [hr] at r hblk
    cases hq : Mk s us ls with
    | none =>
     have hrr : A2 s us (.box T ls) = .dead := by simp only [A2, hq]
     rw [hrr] at hblk ⊢
     exact hblk
    | some ls' =>
     have hrr : A2 s us (.box T ls) = .box T ls' := by simp only [A2, hq]
     rw [hrr] at hblk ⊢
     obtain ⟨b, cs, h1, h2, h3⟩ := r
     exact ⟨b, cs, hblk.trans h1, h2, Pq hs h.res hq h3⟩
   | row e t xs =>
    rw [hr] at r hblk
    obtain ⟨cs, h1, h2, h3⟩ := r
    exact ⟨cs, by rw [hhdr]; exact h1, h2.imp hSS, by rw [hhdr]; exact hblk.trans h3⟩
   | frozen t xs =>
    rw [hr] at r hblk
    exact ⟨by rw [hhdr]; exact Ty.K_keep (fun b hb hl => ⟨hSS b hb hl, rfl⟩) r.1, hblk⟩
   | last e t xs c k =>
    rw [hr] at r hblk
    cases hq : Hd us k with
    | none =>
     have hrr : A2 s us (.last e t xs c k) = .dead := by simp only [A2, hq]
     rw [hrr] at hblk ⊢
     exact hblk
    | some k' =>
     have hrr : A2 s us (.last e t xs c k) = .last e t xs c k' := by simp only [A2, hq]
     rw [hrr] at hblk ⊢
     obtain ⟨cs, h1, h2, h3, h4⟩ := r
     refine ⟨cs, by rw [hhdr]; exact h1, h2.imp hSS, by rw [hhdr]; exact hblk.trans h3, fun u hc hu => ?_⟩
     have h5 := h4 u hc hu
     have hk' := S6 hq
     have e1 : s'.res k' = A2 s us (s.res k) := by rw [hs, hk']
     have e2 : (Ey s us g).hdr k' = g.hdr k := by simp only [Ey, hk']
     rw [e1, e2]
     cases hrk : s.res k with
     | unborn => rw [hrk] at h5; exact h5.elim
     | dead => trivial
     | box T ls => rw [hrk] at h5; exact h5.elim
     | row _ _ _ => rw [hrk] at h5; exact h5
     | frozen _ _ => rw [hrk] at h5; exact h5
     | last _ _ _ _ _ => rw [hrk] at h5; exact h5.elim
     | map _ _ => rw [hrk] at h5; exact h5.elim
     | iter _ _ _ _ => rw [hrk] at h5; exact h5.elim
   | map t xs =>
    rw [hr] at r hblk
    obtain ⟨b, es, clock, h1, h2, h3⟩ := r
    exact ⟨b, es, clock, hblk.trans h1, hhdr.trans h2, h3⟩
   | iter t xs seen cur =>
    rw [hr] at r hblk
    obtain ⟨b, r, es, clock, since, c0, sn, h1, h2, h3, h4, h5, h6⟩ := r
    exact ⟨b, r, es, clock, since, c0, sn, hblk.trans h1, hhdr.trans h2, h3, hSS b h4 h5, h5, h6⟩
 ·obtain ⟨i0, e1, e2, _⟩ := blk_of i b hi
  obtain ⟨j0, e3, e4, _⟩ := blk_of j b hj
  have := h.inj i0 j0 b e2 e4
  subst this
  have hil := (List.getElem?_eq_some_iff.1 e1).1
  exact (List.getElem?_inj hil hnd).1 (e1.trans e3.symm)
 ·obtain ⟨id, e1, e2, _⟩ := blk_of j b hb
  exact h.lt id b e2
 ·have hu := hpin id hid
  have hsr : s'.res id = A2 s us (s.res id) := by rw [hs, hu]
  have hb : (Ey s us g).blk id = if (A2 s us (s.res id)).live then g.blk id else none := by simp only [Ey, hu]
  have hh : (Ey s us g).hdr id = g.hdr id := by simp only [Ey, hu]
  refine ⟨fun hq => ?_, fun T ls hq => ?_, fun e t xs hq => ?_⟩
  ·rw [hsr] at hq
   cases hr : s.res id with
   | unborn => rfl
   | box T ls =>
    rw [hr] at hq
    simp only [A2] at hq
    split at hq <;> cases hq
   | dead => rw [hr] at hq; cases hq
   | row e t xs => rw [hr] at hq; cases hq
   | frozen t xs => rw [hr] at hq; cases hq
   | last _ _ _ _ _ =>
    rw [hr] at hq
    simp only [A2] at hq
    split at hq <;> cases hq
   | map _ _ => rw [hr] at hq; cases hq
   | iter _ _ _ _ => rw [hr] at hq; cases hq
  ·rw [hsr] at hq
   rw [hq] at hb
   refine ⟨?_, hb⟩
   cases hr : s.res id with
   | unborn => rw [hr] at hq; cases hq
   | box T ls => exact ⟨T, ls, rfl⟩
   | dead => rw [hr] at hq; cases hq
   | row e t xs => rw [hr] at hq; cases hq
   | frozen t xs => rw [hr] at hq; cases hq
   | last _ _ _ _ _ =>
    rw [hr] at hq
    simp only [A2] at hq
    split at hq <;> cases hq
   | map _ _ => rw [hr] at hq; cases hq
   | iter _ _ _ _ => rw [hr] at hq; cases hq
  ·rw [hsr] at hq
   rw [hq] at hb
   refine ⟨?_, hb, hh⟩
   cases hr : s.res id with
   | unborn => rw [hr] at hq; cases hq
   | box T ls =>
    rw [hr] at hq
    simp only [A2] at hq
    split at hq <;> cases hq
   | dead => rw [hr] at hq; cases hq
   | row e t xs => rw [hr] at hq; cases hq; exact ⟨e, xs, rfl⟩
   | frozen t xs => rw [hr] at hq; cases hq
   | last _ _ _ _ _ =>
    rw [hr] at hq
    simp only [A2] at hq
    split at hq <;> cases hq
   | map _ _ => rw [hr] at hq; cases hq
   | iter _ _ _ _ => rw [hr] at hq; cases hq
end
end Go.Proofs.Ytkfoebbjncngjaa.R

