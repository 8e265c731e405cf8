/- A state, told anew: what is named is numbered by its place. No condition. -/
import Derived.Test.YtkfoebbjncngjaaRAny
namespace Go.Proofs.Ytkfoebbjncngjaa.R
open Go Go.RowKit
set_option linter.unusedVariables false
set_option linter.unusedSimpArgs false
def c8 (l : List (Nat × AV)) (i : Nat) : AV := match l with
 | [] => .dead
 | (j, v) :: r => bif Nat.beq j i then v else c8 r i
def W0 (l : List Res) (i : Nat) : Res := match l, i with
 | [], _ => .unborn
 | r :: _, 0 => r
 | _ :: l, i + 1 => W0 l i
def c9 (cs : List (Nat × AV)) (rs : List Res) : St := ⟨c8 cs, W0 rs⟩
def Jt (us : List Nat) (id : Nat) : Option Nat := match us with
 | [] => none
 | j :: r => bif Nat.beq j id then some 0 else (Jt r id).map (· + 1)
def Ul (s : St) (us : List Nat) : Lf → Option Lf
 | .c v => some (.c v)
 | .sl t xs => some (.sl t xs)
 | .row id => match s.res id with
  | .frozen t xs => some (.sl t xs)
  | _ => (Jt us id).map .row
 | .ptr id off => (Jt us id).map fun j => .ptr j off
 | .ep t xs i off => some (.ep t xs i off)
 | .rp id i off => (Jt us id).map fun j => .rp j i off
 | .sp id => (Jt us id).map fun j => .sp j
def P0 (s : St) (us : List Nat) : List Lf → Option (List Lf)
 | [] => some []
 | l :: r => (Ul s us l).bind fun l' => (P0 s us r).map fun r' => l' :: r'
def Aam (s : St) (us : List Nat) : Vl → Option Vl
 | .lf l => (Ul s us l).map .lf
 | .ag ls => (P0 s us ls).map .ag
def Q0 (s : St) (us : List Nat) : List Vl → Option (List Vl)
 | [] => some []
 | l :: r => (Aam s us l).bind fun l' => (Q0 s us r).map fun r' => l' :: r'
def Um (s : St) (us : List Nat) : AV → AV
 | .dead => .dead
 | .vl v => match Aam s us v with
  | some v => .vl v
  | none => .dead
 | .tp vs => match Q0 s us vs with
  | some vs => .tp vs
  | none => .dead
 | .fn f ls => match P0 s us ls with
  | some ls => .fn f ls
  | none => .dead
def Bn (s : St) (us : List Nat) : Res → Res
 | .box T ls => match P0 s us ls with
  | some ls => .box T ls
  | none => .dead
 | .last e t xs c j => match Jt us j with
  | some j' => .last e t xs c j'
  | none => .dead
 | r => r
def P1 (s : St) : List Lf → List Nat
 | [] => []
 | .row id :: r => match s.res id with
  | .frozen _ _ => P1 s r
  | _ => id :: P1 s r
 | .ptr id _ :: r => id :: P1 s r
 | .rp id _ _ :: r => id :: P1 s r
 | .sp id :: r => id :: P1 s r
 | _ :: r => P1 s r
def Aan : List Vl → List Lf
 | [] => []
 | v :: r => v.ls ++ Aan r
def Agl : AV → List Lf
 | .dead => []
 | .vl v => v.ls
 | .tp vs => Aan vs
 | .fn _ ls => ls
def W1 (s : St) : List Nat → List Lf
 | [] => []
 | i :: r => Agl (s.cell i) ++ W1 s r
def Yy (s : St) : List Nat → List Lf
 | [] => []
 | i :: r => (match s.res i with | .box _ ls => ls | .last _ _ _ _ j => [.row j] | _ => []) ++ Yy s r
def Un (us : List Nat) : List Nat → List Nat
 | [] => us
 | i :: r => if Eh us i then Un us r else Un (us ++ [i]) r
def Ahm (n : Nat) : List Nat := List.range n
def S5 (s : St) (np : Nat) (live : List Nat) : List Nat :=
 let l0 := Un (Ahm np) (P1 s (W1 s live))
 let l1 := Un l0 (P1 s (Yy s l0))
 Un l1 (P1 s (Yy s l1))
def Yz (s : St) (us : List Nat) : List Nat → List (Nat × AV)
 | [] => []
 | i :: r => (i, Um s us (s.cell i)) :: Yz s us r
def V4 (s : St) (us : List Nat) : List Nat → List Res
 | [] => []
 | i :: r => Bn s us (s.res i) :: V4 s us r
def M4 : Nat → Nat → List Nat → Bool
 | _, 0, _ => true
 | k, m + 1, i :: r => Nat.beq i k && M4 (k + 1) m r
 | _, _ + 1, [] => false
def canon (np : Nat) (live : List Nat) (s : St) : Option (St × Nat) :=
 let us := S5 s np live
 if Hv us && M4 0 np us then some (c9 (Yz s us live) (V4 s us us), us.length) else none
section
variable {P : Program} {n B : Nat} {Iq : List Nat} {s : St} {g : Gh} {a : Act} {w : World}
theorem W2 {us : List Nat} {id j : Nat} (h : Jt us id = some j) : us[j]? = some id := by
 induction us generalizing j with
 | nil => simp [Jt] at h
 | cons k r ih =>
  simp only [Jt] at h
  cases hq : Nat.beq k id with
  | true =>
   rw [hq] at h
   simp at h
   subst h
   simp [Nat.eq_of_beq_eq_true hq]
  | false =>
   rw [hq] at h
   simp only [cond_false] at h
   obtain ⟨i, h1, rfl⟩ := Option.map_eq_some_iff.1 h
   simpa using ih h1
theorem W3 {us' : List Nat} : ∀ {us : List Nat} {j : Nat}, W0 (V4 s us' us) j = match us[j]? with | some id => Bn s us' (s.res id) | none => .unborn
 | [], _ => by simp [V4, W0]
 | i :: r, 0 => by simp [V4, W0]
 | i :: r, j + 1 => by
  simp only [V4, W0]
  rw [W3 (us := r)]
  simp
theorem W4 {us : List Nat} : ∀ {l : List Nat} {i : Nat}, c8 (Yz s us l) i = if i ∈ l then Um s us (s.cell i) else .dead
 | [], i => by simp [Yz, c8]
 | j :: r, i => by
  simp only [Yz, c8]
  cases hq : Nat.beq j i with
  | true =>
   have := Nat.eq_of_beq_eq_true hq
   subst this
   simp
  | false =>
   have : j ≠ i := fun e => by subst e; simp at hq
   simp only [cond_false]
   rw [W4 (l := r)]
   simp [Ne.symm this]
section
variable {us live : List Nat}
def Gl (s : St) (us : List Nat) (g : Gh) : Gh := ⟨fun j => match us[j]? with | some id => if (Bn s us (s.res id)).live then g.blk id else none | none => none, fun j => match us[j]? with | some id => g.hdr id | none => undef, g.av⟩
theorem Ada {r : Res} (h : (Bn s us r).live = true) : r.live = true := by
 cases r <;> simp only [Bn] at h <;> first | exact h | rfl
theorem Adb {s' : St} (hs : ∀ j, s'.res j = match us[j]? with | some id => Bn s us (s.res id) | none => .unborn) (b : Nat) (hb : Bw s g b) : Bw s' (Gl s us g) b := by
 refine ⟨hb.1, fun j hl hk => ?_⟩
 rw [hs] at hl
 simp only [Gl] at hk
 cases hu : us[j]? with
 | none => rw [hu] at hl; cases hl
 | some id =>
  rw [hu] at hl hk
  simp only at hl hk
  rw [if_pos hl] at hk
  exact hb.2 id (Ada hl) hk
theorem Aao {s' : St} (hs : ∀ j, s'.res j = match us[j]? with | some id => Bn s us (s.res id) | none => .unborn) (hres : ∀ id, Ep s g w id (s.res id)) :
  ∀ {l l' : Lf} {u : Value}, Ul s us l = some l' → Bm s g w l u → Bm s' (Gl s us g) w l' u := by
 have hS : ∀ b, Bw s g b → b < w.heap.size → Bw s' (Gl s us g) b ∧ w.heap[b]? = w.heap[b]? := fun b hb _ => ⟨Adb hs b hb, rfl⟩
 have hat : ∀ {id j : Nat}, Jt us id = some j → s'.res j = Bn s us (s.res id) ∧ (Gl s us g).hdr j = g.hdr id ∧ ((Bn s us (s.res id)).live = true → (Gl s us g).blk j = g.blk id) := by
  intro id j h
  have hu := W2 h
  refine ⟨by rw [hs, hu], by simp only [Gl, hu], fun hl => by simp only [Gl, hu]; rw [if_pos hl]⟩
 intro l l' u h hl
 cases l with
 | c v => cases h; exact hl
 | sl t xs => cases h; exact Ty.K_keep hS hl
 | row id =>
  simp only [Ul] at h
  split at h
  ·rename_i t xs hr
   cases h
   have r := hres id
   rw [hr] at r
   simp only [Bm, hr] at hl
   rw [hl]
   exact Ty.K_keep hS r.1
  ·rename_i hn
   obtain ⟨j, h1, rfl⟩ := Option.map_eq_some_iff.1 h
   obtain ⟨a1, a2, a3⟩ := hat h1
   simp only [Bm] at hl ⊢
   rw [a1, a2]
   cases hr : s.res id with
   | unborn => rw [hr] at hl; exact hl.elim
   | dead => trivial
   | box T ls => rw [hr] at hl; exact hl.elim
   | row e t xs => rw [hr] at hl; exact hl
   | frozen t xs => exact absurd hr (hn t xs)
   | last e t xs c k =>
    rw [hr] at hl
    simp only [Bn]
    cases hq : Jt us k with
    | none => trivial
    | some k' => exact hl
   | map t xs => rw [hr] at hl; exact hl
   | iter t xs seen cur => rw [hr] at hl; exact hl
 | ptr id off =>
  simp only [Ul] at h
  obtain ⟨j, h1, rfl⟩ := Option.map_eq_some_iff.1 h
  obtain ⟨a1, a2, a3⟩ := hat h1
  simp only [Bm] at hl ⊢
  rw [a1]
  cases hr : s.res id with
  | unborn => rw [hr] at hl; exact hl.elim
  | dead => trivial
  | box T ls =>
   rw [hr] at hl a3
   simp only [Bn] at a3 ⊢
   cases hq : P0 s us ls with
   | none => trivial
   | some ls' =>
    rw [hq] at a3
    obtain ⟨b, hb, hu⟩ := hl
    exact ⟨b, (a3 rfl).trans hb, hu⟩
  | row e t xs => rw [hr] at hl; exact hl.elim
  | frozen t xs => rw [hr] at hl; exact hl.elim
  | last _ _ _ _ _ => rw [hr] at hl; exact hl.elim
  | map _ _ => rw [hr] at hl; exact hl.elim
  | iter _ _ _ _ => rw [hr] at hl; exact hl.elim
 | ep t xs i off =>
  cases h
  obtain ⟨ad, cs, h1, h2, h3, h4, h5⟩ := hl
  exact ⟨ad, cs, h1, Adb hs _ h2, h3, Ty.K_keep hS h4, h5⟩
 | rp id i off =>
  simp only [Ul] at h
  obtain ⟨j, h1, rfl⟩ := Option.map_eq_some_iff.1 h
  obtain ⟨a1, a2, a3⟩ := hat h1
  simp only [Bm] at hl ⊢
  rw [a1]
  cases hr : s.res id with
  | unborn => rw [hr] at hl; exact hl.elim
  | dead => trivial
  | box T ls => rw [hr] at hl; exact hl.elim
  | row e t xs =>
   rw [hr] at hl a3
   obtain ⟨hi, b, hb, hu⟩ := hl
   exact ⟨hi, b, (a3 rfl).trans hb, hu⟩
  | frozen t xs => trivial
  | last e t xs c k =>
   rw [hr] at hl a3
   simp only [Bn] at a3 ⊢
   cases hq : Jt us k with
   | none => trivial
   | some k' =>
    rw [hq] at a3
    obtain ⟨hi, b, hb, hu⟩ := hl
    exact ⟨hi, b, (a3 rfl).trans hb, hu⟩
  | map _ _ => rw [hr] at hl; exact hl.elim
  | iter _ _ _ _ => rw [hr] at hl; exact hl.elim
 | sp id =>
  simp only [Ul] at h
  obtain ⟨j, h1, rfl⟩ := Option.map_eq_some_iff.1 h
  obtain ⟨a1, a2, a3⟩ := hat h1
  simp only [Bm] at hl ⊢
  rw [a1]
  cases hr : s.res id with
  | unborn => rw [hr] at hl; exact hl.elim
  | dead => trivial
  | box T ls =>
   rw [hr] at hl a3
   simp only [Bn] at a3 ⊢
   cases hq : P0 s us ls with
   | none => trivial
   | some ls' =>
    rw [hq] at a3
    rcases hl with hl | ⟨b, hb, hu⟩
    ·exact .inl hl
    ·exact .inr ⟨b, (a3 rfl).trans hb, hu⟩
  | row e t xs => rw [hr] at hl; exact hl.elim
  | frozen t xs => rw [hr] at hl; exact hl.elim
  | last _ _ _ _ _ => rw [hr] at hl; exact hl.elim
  | map _ _ => rw [hr] at hl; exact hl.elim
  | iter _ _ _ _ => rw [hr] at hl; exact hl.elim
section
variable {s' : St} (hs : ∀ j, s'.res j = match us[j]? with | some id => Bn s us (s.res id) | none => .unborn) (hres : ∀ id, Ep s g w id (s.res id))
 include hs hres
theorem S6 : ∀ {ls ls' : List Lf} {cs : List Value}, P0 s us ls = some ls' → Cw s g w ls cs → Cw s' (Gl s us g) w ls' cs
 | [], ls', [], h, _ => by cases h; trivial
 | [], _, _ :: _, _, h => h.elim
 | _ :: _, _, [], _, h => h.elim
 | l :: r, ls', c :: cs, h, hL => by
  simp only [P0] at h
  obtain ⟨l', h1, h2⟩ := Option.bind_eq_some_iff.1 h
  obtain ⟨r', h3, rfl⟩ := Option.map_eq_some_iff.1 h2
  exact ⟨⟨Aao hs hres h1 hL.1.1, hL.1.2⟩, S6 h3 hL.2⟩
theorem Aap {v v' : Vl} {u : Value} (h : Aam s us v = some v') (hv : O5 s g w v u) : O5 s' (Gl s us g) w v' u := by
 cases v with
 | lf l =>
  obtain ⟨l', h1, rfl⟩ := Option.map_eq_some_iff.1 h
  exact ⟨Aao hs hres h1 hv.1, hv.2⟩
 | ag ls =>
  obtain ⟨l', h1, rfl⟩ := Option.map_eq_some_iff.1 h
  obtain ⟨cs, e1, e2⟩ := hv
  exact ⟨cs, e1, S6 hs hres h1 e2⟩
 omit hs hres in
theorem Uo : ∀ {vs vs' : List Vl} {j : Nat} {v' : Vl}, Q0 s us vs = some vs' → vs'[j]? = some v' → ∃ v, vs[j]? = some v ∧ Aam s us v = some v'
 | [], vs', j, v', h, hj => by cases h; simp at hj
 | v :: r, vs', j, v', h, hj => by
  simp only [Q0] at h
  obtain ⟨l', h1, h2⟩ := Option.bind_eq_some_iff.1 h
  obtain ⟨r', h3, rfl⟩ := Option.map_eq_some_iff.1 h2
  cases j with
  | zero => simp at hj; subst hj; exact ⟨v, rfl, h1⟩
  | succ j =>
   obtain ⟨x, e1, e2⟩ := Uo h3 (j := j) (by simpa using hj)
   exact ⟨x, by simpa using e1, e2⟩
 omit hs hres in
theorem Up : ∀ {vs vs' : List Vl}, Q0 s us vs = some vs' → vs'.length = vs.length
 | [], vs', h => by cases h; rfl
 | v :: r, vs', h => by
  simp only [Q0] at h
  obtain ⟨l', h1, h2⟩ := Option.bind_eq_some_iff.1 h
  obtain ⟨r', h3, rfl⟩ := Option.map_eq_some_iff.1 h2
  simp [Up h3]
theorem Ae4 {v : AV} {u : Value} (hv : I7 s g w v u) : I7 s' (Gl s us g) w (Um s us v) u := by
 cases v with
 | dead => trivial
 | vl v =>
  simp only [Um]
  split
  ·rename_i v' h
   exact Aap hs hres h hv
  ·trivial
 | tp vs =>
  simp only [Um]
  split
  ·rename_i vs' h
   obtain ⟨cs, h1, h2, h3⟩ := hv
   refine ⟨cs, h1, by rw [Up h]; exact h2, fun j l hl => ?_⟩
   obtain ⟨v, e1, e2⟩ := Uo h hl
   obtain ⟨x, e3, e4⟩ := h3 j v e1
   exact ⟨x, e3, Aap hs hres e2 e4⟩
  ·trivial
 | fn f ls =>
  simp only [Um]
  split
  ·rename_i ls' h
   obtain ⟨cs, h1, h2⟩ := hv
   exact ⟨cs, h1, S6 hs hres h h2⟩
  ·trivial
end
end
theorem Adc (h : Ax n B Iq s g a w) {np : Nat} {live : List Nat} {s' : St} {nid : Nat} (e : canon np live s = some (s', nid)) :
  ∃ g', Ax n B Iq s' g' a w ∧ g'.av = g.av ∧ ∀ id, id < np → (s'.res id = .unborn → s.res id = .unborn) ∧ (∀ T ls, s'.res id = .box T ls → (∃ T' ls', s.res id = .box T' ls') ∧ g'.blk id = g.blk id) ∧ (∀ e, ∀ t : Ty, ∀ xs : List t.D, s'.res id = .row e t xs → (∃ e', ∃ xs' : List t.D, s.res id = .row e' t xs') ∧ g'.blk id = g.blk id ∧ g'.hdr id = g.hdr id) := by
 unfold canon at e
 dsimp only at e
 generalize hus : S5 s np live = us at e
 split at e <;> cases e
 rename_i hc
 simp only [Bool.and_eq_true] at hc
 have hnd := Pf hc.1
 have hs : ∀ j, (c9 (Yz s us live) (V4 s us us)).res j = match us[j]? with | some id => Bn s us (s.res id) | none => .unborn := fun j => W3
 have hcell : ∀ i, (c9 (Yz s us live) (V4 s us us)).cell i = if i ∈ live then Um s us (s.cell i) else .dead := fun i => W4
 generalize c9 (Yz s us live) (V4 s us us) = s' at hs hcell ⊢
 have hst : ∀ k m l, M4 k m l = true → ∀ j, j < m → l[j]? = some (k + j) := by
  intro k m
  induction m generalizing k with
  | zero => intro l _ j hj; omega
  | succ m ih =>
   intro l hl j hj
   cases l with
   | nil => simp [M4] at hl
   | cons i r =>
    simp only [M4, Bool.and_eq_true] at hl
    cases j with
    | zero => simp [Nat.eq_of_beq_eq_true hl.1]
    | succ j =>
     have := ih (k + 1) r hl.2 j (by omega)
     rw [List.getElem?_cons_succ, this]
     congr 1
     omega
 have hpin : ∀ id, id < np → us[id]? = some id := fun id hid => by have := hst 0 np us hc.2 id hid; simpa using this
 have blk_of : ∀ j b, (Gl s us g).blk j = some b → ∃ id, us[j]? = some id ∧ g.blk id = some b ∧ (Bn s us (s.res id)).live = true := by
  intro j b hb
  simp only [Gl] at hb
  cases hu : us[j]? with
  | none => rw [hu] at hb; cases hb
  | some id =>
   rw [hu] at hb
   simp only at hb
   split at hb
   ·rename_i hl
    exact ⟨id, rfl, hb, hl⟩
   ·cases hb
 refine ⟨Gl s us g, ⟨h.size, h.defers, h.base, fun i => ?_, fun j => ?_, fun i j b hi hj => ?_, fun j b hb => ?_, h.avB⟩, rfl, fun id hid => ?_⟩
 ·rw [hcell]
  split
  ·exact Ae4 hs h.res (h.cell i)
  ·trivial
 ·rw [hs]
  cases hu : us[j]? with
  | none => show (Gl s us g).blk j = none; simp only [Gl, hu]
  | some id =>
   simp only
   have r := h.res id
   have hblk : (Gl s us g).blk j = if (Bn s us (s.res id)).live then g.blk id else none := by simp only [Gl, hu]
   have hhdr : (Gl s us g).hdr j = g.hdr id := by simp only [Gl, hu]
   have hSS : ∀ b, Bw s g b → b < w.heap.size → Bw s' (Gl s us g) b := fun b hb _ => Adb hs b hb
   cases hr : s.res id with
   | unborn => rw [hr] at hblk; exact hblk
   | dead => rw [hr] at hblk; exact hblk
   | box T ls =>
    rw [hr] at r hblk
    cases hq : P0 s us ls with
    | none =>
     have hrr : Bn s us (.box T ls) = .dead := by simp only [Bn, hq]
     rw [hrr] at hblk ⊢
     exact hblk
    | some ls' =>
     have hrr : Bn s us (.box T ls) = .box T ls' := by simp only [Bn, hq]
     rw [hrr] at hblk ⊢
     obtain ⟨b, cs, h1, h2, h3⟩ := r
     exact ⟨b, cs, hblk.trans h1, h2, S6 hs h.res hq h3⟩
   | row e t xs =>
    rw [hr] at r hblk
    obtain ⟨cs, h1, h2, h3⟩ := r
    exact ⟨cs, by rw [hhdr]; exact h1, h2.imp hSS, by rw [hhdr]; exact hblk.trans h3⟩
   | frozen t xs =>
    rw [hr] at r hblk
    exact ⟨by rw [hhdr]; exact Ty.K_keep (fun b hb hl => ⟨hSS b hb hl, rfl⟩) r.1, hblk⟩
   | last e t xs c k =>
    rw [hr] at r hblk
    cases hq : Jt us k with
    | none =>
     have hrr : Bn s us (.last e t xs c k) = .dead := by simp only [Bn, hq]
     rw [hrr] at hblk ⊢
     exact hblk
    | some k' =>
     have hrr : Bn s us (.last e t xs c k) = .last e t xs c k' := by simp only [Bn, hq]
     rw [hrr] at hblk ⊢
     obtain ⟨cs, h1, h2, h3, h4⟩ := r
     refine ⟨cs, by rw [hhdr]; exact h1, h2.imp hSS, by rw [hhdr]; exact hblk.trans h3, fun u hc hu => ?_⟩
     have h5 := h4 u hc hu
     have hk' := W2 hq
     have e1 : s'.res k' = Bn s us (s.res k) := by rw [hs, hk']
     have e2 : (Gl s us g).hdr k' = g.hdr k := by simp only [Gl, hk']
     rw [e1, e2]
     cases hrk : s.res k with
     | unborn => rw [hrk] at h5; exact h5.elim
     | dead => trivial
     | box T ls => rw [hrk] at h5; exact h5.elim
     | row _ _ _ => rw [hrk] at h5; exact h5
     | frozen _ _ => rw [hrk] at h5; exact h5
     | last _ _ _ _ _ => rw [hrk] at h5; exact h5.elim
     | map _ _ => rw [hrk] at h5; exact h5.elim
     | iter _ _ _ _ => rw [hrk] at h5; exact h5.elim
   | map t xs =>
    rw [hr] at r hblk
    obtain ⟨b, es, clock, h1, h2, h3⟩ := r
    exact ⟨b, es, clock, hblk.trans h1, hhdr.trans h2, h3⟩
   | iter t xs seen cur =>
    rw [hr] at r hblk
    obtain ⟨b, r, es, clock, since, c0, sn, h1, h2, h3, h4, h5, h6⟩ := r
    exact ⟨b, r, es, clock, since, c0, sn, hblk.trans h1, hhdr.trans h2, h3, hSS b h4 h5, h5, h6⟩
 ·obtain ⟨i0, e1, e2, _⟩ := blk_of i b hi
  obtain ⟨j0, e3, e4, _⟩ := blk_of j b hj
  have := h.inj i0 j0 b e2 e4
  subst this
  have hil := (List.getElem?_eq_some_iff.1 e1).1
  exact (List.getElem?_inj hil hnd).1 (e1.trans e3.symm)
 ·obtain ⟨id, e1, e2, _⟩ := blk_of j b hb
  exact h.lt id b e2
 ·have hu := hpin id hid
  have hsr : s'.res id = Bn s us (s.res id) := by rw [hs, hu]
  have hb : (Gl s us g).blk id = if (Bn s us (s.res id)).live then g.blk id else none := by simp only [Gl, hu]
  have hh : (Gl s us g).hdr id = g.hdr id := by simp only [Gl, hu]
  refine ⟨fun hq => ?_, fun T ls hq => ?_, fun e t xs hq => ?_⟩
  ·rw [hsr] at hq
   cases hr : s.res id with
   | unborn => rfl
   | box T ls =>
    rw [hr] at hq
    simp only [Bn] at hq
    split at hq <;> cases hq
   | dead => rw [hr] at hq; cases hq
   | row e t xs => rw [hr] at hq; cases hq
   | frozen t xs => rw [hr] at hq; cases hq
   | last _ _ _ _ _ =>
    rw [hr] at hq
    simp only [Bn] at hq
    split at hq <;> cases hq
   | map _ _ => rw [hr] at hq; cases hq
   | iter _ _ _ _ => rw [hr] at hq; cases hq
  ·rw [hsr] at hq
   rw [hq] at hb
   refine ⟨?_, hb⟩
   cases hr : s.res id with
   | unborn => rw [hr] at hq; cases hq
   | box T ls => exact ⟨T, ls, rfl⟩
   | dead => rw [hr] at hq; cases hq
   | row e t xs => rw [hr] at hq; cases hq
   | frozen t xs => rw [hr] at hq; cases hq
   | last _ _ _ _ _ =>
    rw [hr] at hq
    simp only [Bn] at hq
    split at hq <;> cases hq
   | map _ _ => rw [hr] at hq; cases hq
   | iter _ _ _ _ => rw [hr] at hq; cases hq
  ·rw [hsr] at hq
   rw [hq] at hb
   refine ⟨?_, hb, hh⟩
   cases hr : s.res id with
   | unborn => rw [hr] at hq; cases hq
   | box T ls =>
    rw [hr] at hq
    simp only [Bn] at hq
    split at hq <;> cases hq
   | dead => rw [hr] at hq; cases hq
   | row e t xs => rw [hr] at hq; cases hq; exact ⟨e, xs, rfl⟩
   | frozen t xs => rw [hr] at hq; cases hq
   | last _ _ _ _ _ =>
    rw [hr] at hq
    simp only [Bn] at hq
    split at hq <;> cases hq
   | map _ _ => rw [hr] at hq; cases hq
   | iter _ _ _ _ => rw [hr] at hq; cases hq
end
end Go.Proofs.Ytkfoebbjncngjaa.R

