/- A function's body, evaluated, and its contract. No condition. -/
import Derived.Test.YtkfoebbjncngjaaRCode
namespace Go.Proofs.Ytkfoebbjncngjaa.R
open Go Go.RowKit
set_option linter.unusedVariables false
set_option linter.unusedSimpArgs false
def Kd (s : St) : List Md → Nat → List Lf
 | [], _ => []
 | .rd _ :: ps, id => Kd s ps id
 | .own _ _ :: ps, id => Kd s ps (id + 1)
 | .bx _ _ :: ps, id => (match s.res id with | .box _ ls => ls | _ => []) ++ Kd s ps (id + 1)
 | .mu _ _ :: ps, id => Kd s ps (id + 1)
def y5 (s : St) : (ps : List Md) → Nat → Option (Kr ps)
 | [], _ => some ()
 | .rd _ :: ps, id => y5 s ps id
 | .own _ _ :: ps, id => y5 s ps (id + 1)
 | .bx T t :: ps, id => match s.res id with
  | .box T' ls => if T' = T then (match s.parse t ls with
   | some (z, []) => (y5 s ps (id + 1)).bind fun q => some (z, q)
   | _ => none) else none
  | _ => none
 | .mu e t :: ps, id => match s.res id with
  | .row e' t' xs => if e' = e then (if h : t' = t then (y5 s ps (id + 1)).bind fun q => some (h ▸ xs, q) else none) else none
  | _ => none
def Ce : List Md → Nat → List Nat
 | [], _ => []
 | .rd _ :: ps, id => Ce ps id
 | .own _ _ :: ps, id => Ce ps (id + 1)
 | .bx _ _ :: ps, id => id :: Ce ps (id + 1)
 | .mu _ _ :: ps, id => id :: Ce ps (id + 1)
def fin (P : Program) (sg : Sig) (rv : List ResultVar) : Kt (Gr sg.rs × Kr sg.ps) := fun e s nid => match e with
 | .exit _ => none
 | _ => match Fb P s rv with
  | none => none
  | some vs => match W9 sg.rsh vs with
   | none => none
   | some ls =>
    let sF := s.frz (Cv s sg.rs ls ++ Kd s sg.ps 0)
    match En sF sg.rs ls with
    | none => none
    | some q => match y5 sF sg.ps 0 with
     | none => none
     | some z => bif Fz (Ap q.2 ++ Ce sg.ps 0) then some (q.1, z) else none
def D9 (fn : Func) : Code := match fn.body with
 | some c => c
 | none => .skip
def H8 (sg : Sig) (x : Gr sg.ps) (vs : List Vl) : St := ⟨fun i => match vs[i]? with | some v => .vl v | none => .dead, Dd sg.ps x 0 (fun _ => .unborn)⟩
def o6 (P : Program) (sigs : Tb) (pat : Nat → Pat × (Nat → Pat)) (sg : Sig) (fn : Func) (L : Lt (Gr sg.rs × Kr sg.ps) pat) (x : Gr sg.ps) : Option (Gr sg.rs × Kr sg.ps) :=
 match fn.body, h9 sg.psh (T7 sg.ps x 0) with
 | some c, some vs => bif Nat.ble vs.length fn.ntmps then ev P ⟨sigs, Cx sg.ps, fn.ntmps, pat⟩ L c (H8 sg x vs) (Cx sg.ps) (fin P sg fn.results.toList) else none
 | _, _ => none
section
variable {P : Program} {n B : Nat} {Iq : List Nat} {s : St} {g : Gh} {a : Act} {w : World}
theorem I2 : ∀ {ps : List Md} {id j : Nat}, j ∈ Ce ps id → id ≤ j ∧ j < id + Cx ps
 | [], _, _, h => by simp [Ce] at h
 | .rd _ :: ps, id, j, h => I2 (ps := ps) h
 | .own _ _ :: ps, id, j, h => by
  have := I2 (ps := ps) h
  simp only [Cx]
  omega
 | .bx _ _ :: ps, id, j, h => by
  simp only [Ce, List.mem_cons] at h
  simp only [Cx]
  rcases h with rfl | h
  ·omega
  ·have := I2 (ps := ps) h
   omega
 | .mu _ _ :: ps, id, j, h => by
  simp only [Ce, List.mem_cons] at h
  simp only [Cx]
  rcases h with rfl | h
  ·omega
  ·have := I2 (ps := ps) h
   omega
theorem We (hres : ∀ id, C3 s g w id (s.res id)) {g0 : Gh} : ∀ {ps : List Md} {id : Nat} {us : List Value} {y : Kr ps} {x : Gr ps} {w0 : World} {S : Nat → Prop}, y5 s ps id = some y → HR w0 S ps x us →
  (∀ j, j ∈ Ce ps id → (∀ T ls, s.res j = .box T ls → g.blk j = (Cj ps us id g0).blk j) ∧ ∀ e, ∀ t : Ty, ∀ xs : List t.D, s.res j = .row e t xs → g.blk j = (Cj ps us id g0).blk j ∧ g.hdr j = (Cj ps us id g0).hdr j) →
  Xk w (Bd s g) ps y us ∧ Hx ps us = J9 g ((Ce ps id).map some) ∧ ∀ j ∈ Ce ps id, (s.res j).live = true
 | [], _, _, _, _, _, _, _, _, _ => ⟨trivial, rfl, by simp [Ce]⟩
 | .rd t :: ps, id, us, y, x, w0, S, e, ⟨c1, c2, h1, h2, h3⟩, hp => by
  subst h1
  have hd : (c1 ++ c2).drop t.sz = c2 := by rw [← Ty.K_len h2]; simp
  simp only [Xk, Hx, hd]
  exact We (ps := ps) (x := x.2) hres e h3 (fun j q1 => by have := hp j q1; simp only [Cj, hd] at this; exact this)
 | .own e0 t :: ps, id, us, y, x, w0, S, e, ⟨u, c2, h1, h2, h3⟩, hp => by
  subst h1
  simp only [Xk, Hx, List.tail_cons]
  exact We (ps := ps) (x := x.2) hres e h3 (fun j q1 => by have := hp j q1; simp only [Cj, List.tail_cons] at this; exact this)
 | .bx T t :: ps, id, us, y, x, w0, S, e, ⟨b, c2, h1, h2, h3⟩, hp => by
  subst h1
  simp only [y5] at e
  split at e
  ·rename_i T' ls hr
   split at e
   ·rename_i hT
    split at e
    ·rename_i z hz
     obtain ⟨q, e1, e2⟩ := Option.bind_eq_some_iff.1 e
     cases e2
     subst hT
     have hb0 := (hp id (by simp [Ce])).1 T' ls hr
     simp only [Cj, List.head?_cons, List.tail_cons] at hb0
     rw [(Au ps c2 (id + 1) _ id (by omega)).1] at hb0
     simp only [Am] at hb0
     have hb : g.blk id = some b := hb0
     have r := hres id
     rw [hr] at r
     obtain ⟨b', cs, k1, k2, k3⟩ := r
     obtain rfl : b = b' := Option.some.inj (hb.symm.trans k1)
     obtain ⟨e3, k4⟩ := St.parse_K hres hz k3
     have hlen : cs.toList.take t.sz = cs.toList := by
      apply List.take_of_length_le
      have : ls.length ≤ t.sz := List.drop_eq_nil_iff.1 e3.symm
      rw [k3.length]; exact this
     rw [hlen] at k4
     obtain ⟨i1, i2, i3⟩ := We (ps := ps) (x := x.2) (us := c2) hres e1 h3 (fun j q1 => by
      have := hp j (by simp [Ce, q1])
      simp only [Cj, List.tail_cons] at this
      exact this)
     refine ⟨⟨⟨b, rfl, cs, k2, k4⟩, i1⟩, ?_, ?_⟩
     ·simp only [Hx, Ce, List.map_cons, J9, List.head?_cons, Option.bind_some, List.tail_cons, Fe, hb, i2]
     ·intro j hj
      simp only [Ce, List.mem_cons] at hj
      rcases hj with rfl | hj
      ·rw [hr]; rfl
      ·exact i3 j hj
    ·cases e
   ·cases e
  ·cases e
 | .mu e0 t :: ps, id, us, y, x, w0, S, e, ⟨u, c2, h1, h2, h3⟩, hp => by
  subst h1
  simp only [y5] at e
  split at e
  ·rename_i e' t' xs hr
   split at e
   ·rename_i he
    split at e
    ·rename_i ht
     obtain ⟨q, e1, e2⟩ := Option.bind_eq_some_iff.1 e
     cases e2
     subst he ht
     obtain ⟨hb0, hh0⟩ := (hp id (by simp [Ce])).2 e' t' xs hr
     simp only [Cj, List.head?_cons, List.tail_cons, List.headD_cons] at hb0 hh0
     rw [(Au ps c2 (id + 1) _ id (by omega)).1] at hb0
     rw [(Au ps c2 (id + 1) _ id (by omega)).2] at hh0
     simp only [Am, Option.bind_some] at hb0 hh0
     have r := hres id
     rw [hr] at r
     obtain ⟨cs, k1, k2, k3⟩ := r
     rw [hh0] at k1
     obtain ⟨i1, i2, i3⟩ := We (ps := ps) (x := x.2) (us := c2) hres e1 h3 (fun j q1 => by
      have := hp j (by simp [Ce, q1])
      simp only [Cj, List.tail_cons] at this
      exact this)
     refine ⟨⟨⟨u, rfl, cs, k1, k2⟩, i1⟩, ?_, ?_⟩
     ·simp only [Hx, Ce, List.map_cons, J9, List.head?_cons, Option.bind_some, List.tail_cons, hb0, i2]
     ·intro j hj
      simp only [Ce, List.mem_cons] at hj
      rcases hj with rfl | hj
      ·rw [hr]; rfl
      ·exact i3 j hj
    ·cases e
   ·cases e
  ·cases e
theorem Th (a b : List (Option Nat)) : Ap (a ++ b) = Ap a ++ Ap b := by
 induction a with
 | nil => rfl
 | cons x r ih => cases x <;> simp [Ap, ih]
theorem Ti (l : List Nat) : Ap (l.map some) = l := by
 induction l with
 | nil => rfl
 | cons x r ih => simp [Ap, ih]
theorem Aat (g : Gh) (a b : List (Option Nat)) : J9 g (a ++ b) = J9 g a ++ J9 g b := by
 induction a with
 | nil => rfl
 | cons x r ih => simp [J9, ih]
theorem F7 : ∀ {ps : List Md} {x : Gr ps} {id j : Nat} {res : Nat → Res}, j ∈ Ce ps id → (Dd ps x id res j).live = true
 | [], _, _, _, _, h => by simp [Ce] at h
 | .rd _ :: ps, x, id, j, res, h => F7 (ps := ps) h
 | .own e t :: ps, x, id, j, res, h => F7 (ps := ps) h
 | .bx T t :: ps, x, id, j, res, h => by
  simp only [Ce, List.mem_cons] at h
  rcases h with rfl | h
  ·have : Dd (.bx T t :: ps) x j res j = .box T (t.leafs x.1) := (B5 ps x.2 (j + 1) _ j (by omega)).trans (Am _ _ _)
   rw [this]
   rfl
  ·exact F7 (ps := ps) h
 | .mu e t :: ps, x, id, j, res, h => by
  simp only [Ce, List.mem_cons] at h
  rcases h with rfl | h
  ·have : Dd (.mu e t :: ps) x j res j = .row e t x.1 := (B5 ps x.2 (j + 1) _ j (by omega)).trans (Am _ _ _)
   rw [this]
   rfl
  ·exact F7 (ps := ps) h
theorem o7 {sigs : Tb} {pat : Nat → Pat × (Nat → Pat)} {f : FuncId} {fn : Func} {sg : Sig} {den : Gr sg.ps → Option (Gr sg.rs × Kr sg.ps)} (hm : P.follows .mixedOrders = true) (hs : A7 P sigs)
  (hf : P.funcs[f]? = some fn) (hname : (fn.name == "runtime.NumGoroutine") = false) (hbody : fn.body.isNone = false) (hden : ∀ x r, den x = some r → ∃ L, (∀ c ∈ Bi (D9 fn), Cn P (Gr sg.rs × Kr sg.ps) fn.ntmps (Cx sg.ps) pat L c) ∧ o6 P sigs pat sg fn L x = some r) : Cr P f ∧ Io P f sg den := by
 have sound : Io P f sg den := by
  intro x r hx w S us args hHR hSh hOwn
  obtain ⟨L, hLo, he⟩ := hden x r hx
  unfold o6 at he
  split at he
  ·rename_i c vs hb hvs
   have hbo : D9 fn = c := by unfold D9; rw [hb]
   rw [hbo] at hLo
   obtain ⟨hle, he⟩ := E0 he
   have hle := Nat.le_of_ble_eq_true hle
   refine calls_of_wp hf hb ?_
   generalize hg0 : Cj sg.ps us 0 ⟨fun _ => none, fun _ => undef, fun b => b < w.heap.size ∧ ¬ S b ∧ b ∉ Bg sg.ps us⟩ = g0
   have hav : g0.av = fun b => b < w.heap.size ∧ ¬ S b ∧ b ∉ Bg sg.ps us := by rw [← hg0]; exact Hy _ _ _ _
   have hin : ∀ j b, g0.blk j = some b → j < Cx sg.ps ∧ b ∈ Bg sg.ps us := by
    intro j b q
    by_cases hj : j < Cx sg.ps
    ·rw [← hg0] at q
     exact ⟨hj, C4 _ _ _ _ j b (by omega) (by omega) q⟩
    ·rw [← hg0, (Au _ _ _ _ j (by omega)).1] at q
     cases q
   have hSof : ∀ b, S b → b < w.heap.size → Bd (H8 sg x vs) g0 b := by
    intro b hb _
    refine ⟨by rw [hav]; exact fun q => q.2.1 hb, fun j _ q => ?_⟩
    exact (hOwn.2 b (hin j b q).2).2 hb
   obtain ⟨hL, hR⟩ := So (s := H8 sg x vs) (g := g0) hSof sg.ps x us 0 (fun _ => .unborn) ⟨fun _ => none, fun _ => undef, fun b => b < w.heap.size ∧ ¬ S b ∧ b ∉ Bg sg.ps us⟩ hHR (fun j _ _ => ⟨rfl, by rw [hg0], by rw [hg0]⟩)
   have hV := Yn hvs hL hSh
   have hargs : args.length = vs.length := hV.length
   have hent : As fn.ntmps w.heap.size (Bg sg.ps us) (H8 sg x vs) g0 { tmps := args.toArray ++ Array.replicate (fn.ntmps - args.toArray.size) undef, defers := [] } w := by
    refine ⟨by simp; omega, rfl, Nat.le_refl _, fun i => ?_, fun j => ?_, fun i j b q1 q2 => ?_, fun j b q => ?_, fun b q => ?_⟩
    ·show G0 _ _ _ (match vs[i]? with | some v => .vl v | none => .dead) _
     cases hi : vs[i]? with
     | none => trivial
     | some v =>
      obtain ⟨u, e1, e2⟩ := hV.get hi
      have hlt := (List.getElem?_eq_some_iff.1 e1).1
      have : (args.toArray ++ Array.replicate (fn.ntmps - args.toArray.size) undef).getD i undef = u := by
       rw [Array.getD_eq_getD_getElem?, Array.getElem?_append_left (by simpa using hlt), List.getElem?_toArray, e1]
       rfl
      rw [this]
      exact e2
    ·by_cases hj : j < Cx sg.ps
     ·exact (hR j (by omega) (by omega)).1
     ·have h1 : (H8 sg x vs).res j = .unborn := B5 _ _ _ _ j (by omega)
      rw [h1]
      show g0.blk j = none
      cases hq : g0.blk j with
      | none => rfl
      | some b => exact absurd (hin j b hq).1 hj
    ·rw [← hg0] at q1 q2
     refine G8 _ _ _ _ i j b hOwn.1 (by omega) ?_ (by omega) ?_ q1 q2
     ·rw [hg0] at q1; have := (hin i b q1).1; omega
     ·rw [hg0] at q2; have := (hin j b q2).1; omega
    ·have := (hin j b q).2
     exact ⟨(hOwn.2 b this).1, .inl this, by rw [hav]; exact fun q => q.2.2 this⟩
    ·rw [hav] at q
     exact q.1
   have hgx : Gx (Cx sg.ps) w.heap.size (Bg sg.ps us) (H8 sg x vs) g0 w (H8 sg x vs) g0 w := by
    refine ⟨Kp.refl _ _ _, rfl, fun id _ hl => ⟨fun q => (by rw [q] at hl; cases hl), fun T ls q => ⟨⟨T, ls, q⟩, rfl⟩, fun e t xs q => ⟨⟨e, xs, q⟩, rfl, rfl⟩⟩⟩
   refine Abr (r := r) (Q := bodyPost P fn _) (cfg := ⟨sigs, Cx sg.ps, fn.ntmps, pat⟩) (L := L) hm hs rfl rfl c hLo (fun e s' nid' g' a' w' hk hR' hX' => ?_) he hent hgx
   have hfin : ∀ {vs' : List Vl} {ls : List Lf} {q : Gr sg.rs × List (Option Nat)} {z : Kr sg.ps}, Fb P s' fn.results.toList = some vs' → W9 sg.rsh vs' = some ls →
     En (s'.frz (Cv s' sg.rs ls ++ Kd s' sg.ps 0)) sg.rs ls = some q → y5 (s'.frz (Cv s' sg.rs ls ++ Kd s' sg.ps 0)) sg.ps 0 = some z → Fz (Ap q.2 ++ Ce sg.ps 0) = true →
     a'.defers = [] ∧ ∃ v, (results fn a'.tmps).run P w' = .ok v w' ∧ ∃ vs us', Ending.returned v = .returned (T6 vs) ∧ Yl sg.rsh vs us' ∧ Dx (Bg sg.ps us) w w' ∧
      HR w' (Og w S (Bg sg.ps us) (Bg sg.rs us' ++ Hx sg.ps us)) sg.rs q.1 us' ∧ Xk w' (Og w S (Bg sg.ps us) (Bg sg.rs us' ++ Hx sg.ps us)) sg.ps z us ∧
      (Bg sg.rs us' ++ Hx sg.ps us).Nodup ∧ ∀ b ∈ Bg sg.rs us', b < w'.heap.size ∧ (b ∈ Bg sg.ps us ∨ w.heap.size ≤ b) := by
    intro vs' ls q z h1 h2 h3 h4 h5
    obtain ⟨us1, r1, r2⟩ := Ol hR' h1
    obtain ⟨cs, hsh, hL'⟩ := Ym h2 r2
    obtain ⟨gF, hF, goF, hlf⟩ := Bh (ls := Cv s' sg.rs ls ++ Kd s' sg.ps 0) hR'
    have hXF := hX'.step goF
    have hLF := hL'.imp hlf
    obtain ⟨k1, k2, k3⟩ := Sq hF.res (x := q.1) (ow := q.2) h3 hLF
    obtain ⟨b1, b2, b3⟩ := We hF.res (g0 := ⟨fun _ => none, fun _ => undef, fun b => b < w.heap.size ∧ ¬ S b ∧ b ∉ Bg sg.ps us⟩) (x := x) (us := us) h4 hHR (fun j q1 => by
     have hj := I2 q1
     obtain ⟨_, p2, p3⟩ := hXF.pin j (show j < Cx sg.ps by omega) (F7 q1)
     rw [hg0]
     exact ⟨fun T bl q2 => (p2 T bl q2).2, fun e t xs q2 => (p3 e t xs q2).2⟩)
    have hnd := L0 h5
    have hgone : Bg sg.rs cs ++ Hx sg.ps us = J9 gF (q.2 ++ (Ce sg.ps 0).map some) := by rw [k2, b2, Aat]
    have hS2 : ∀ b, Bd (s'.frz (Cv s' sg.rs ls ++ Kd s' sg.ps 0)) gF b → b < w'.heap.size → Og w S (Bg sg.ps us) (Bg sg.rs cs ++ Hx sg.ps us) b := by
     rintro b ⟨q1, q2⟩ _
     rw [hXF.av, hav] at q1
     refine ⟨?_, fun hq => ?_⟩
     ·by_cases c1 : S b
      ·exact .inl c1
      ·by_cases c2 : b ∈ Bg sg.ps us
       ·exact .inr (.inl c2)
       ·right; right
        rcases Nat.lt_or_ge b w.heap.size with c3 | c3
        ·exact absurd ⟨c3, c1, c2⟩ q1
        ·exact c3
     ·rw [hgone] at hq
      obtain ⟨id, p1, p2⟩ := Fq.1 hq
      rw [Th, Ti] at p1
      rcases List.mem_append.1 p1 with p1 | p1
      ·exact q2 id (k3 id p1) p2
      ·exact q2 id (b3 id p1) p2
    refine ⟨hR'.defers, _, r1, us1, cs, rfl, hsh, ⟨hX'.kp.os, hX'.kp.tape, hX'.kp.output, hX'.kp.size, fun k q1 q2 => hX'.kp.block k q1 q2⟩, M4 (.inr hS2) k1, Jx (.inr hS2) b1, ?_, fun b hb => ?_⟩
    ·rw [hgone]
     exact Jw hF.inj (by rw [Th, Ti]; exact hnd)
    ·rw [k2] at hb
     obtain ⟨id, p1, p2⟩ := Fq.1 hb
     obtain ⟨q1, q2, _⟩ := hF.lt id b p2
     exact ⟨q1, q2⟩
   have hend : ∀ (e : Ex), (∀ id, e ≠ .exit id) → (match Fb P s' fn.results.toList with
     | none => none
     | some vs => match W9 sg.rsh vs with
      | none => none
      | some ls =>
       let sF := s'.frz (Cv s' sg.rs ls ++ Kd s' sg.ps 0)
       match En sF sg.rs ls with
       | none => none
       | some q => match y5 sF sg.ps 0 with
        | none => none
        | some z => bif Fz (Ap q.2 ++ Ce sg.ps 0) then some (q.1, z) else none) = some r → bodyPost P fn (fun e w' => ∃ vs us', e = .returned (T6 vs) ∧ Yl sg.rsh vs us' ∧ Dx (Bg sg.ps us) w w' ∧
       HR w' (Og w S (Bg sg.ps us) (Bg sg.rs us' ++ Hx sg.ps us)) sg.rs r.1 us' ∧ Xk w' (Og w S (Bg sg.ps us) (Bg sg.rs us' ++ Hx sg.ps us)) sg.ps r.2 us ∧
       (Bg sg.rs us' ++ Hx sg.ps us).Nodup ∧ ∀ b ∈ Bg sg.rs us', b < w'.heap.size ∧ (b ∈ Bg sg.ps us ∨ w.heap.size ≤ b)) e.to a' w' := by
    intro e hne h
    split at h
    ·cases h
    ·rename_i vs' h1
     split at h
     ·cases h
     ·rename_i ls h2
      dsimp only at h
      split at h
      ·cases h
      ·rename_i q h3
       split at h
       ·cases h
       ·rename_i z h4
        obtain ⟨h5, h6⟩ := E0 h
        cases h6
        obtain ⟨f1, v, f2, f3⟩ := hfin h1 h2 h3 h4 h5
        cases e with
        | normal => exact ⟨f1, v, f2, f3⟩
        | ret => exact ⟨f1, v, f2, f3⟩
        | exit id => exact absurd rfl (hne id)
   cases e with
   | normal => exact hend .normal (fun id q => by cases q) hk
   | ret => exact hend .ret (fun id q => by cases q) hk
   | exit id => cases hk
  ·cases he
 exact ⟨⟨fn, hf, hname, hbody⟩, sound⟩
def Ff : Nat → Pat × (Nat → Pat) := fun _ => (⟨[], [], []⟩, fun _ => ⟨[], [], []⟩)
def Ou {R : Type} {pat : Nat → Pat × (Nat → Pat)} : Lt R pat := fun _ _ _ => none
def Sb {R : Type} {pat : Nat → Pat × (Nat → Pat)} (key : Nat) (F : (pat key).1.D → Kt R → Option R) (L : Lt R pat) : Lt R pat := fun j d k => if h : j = key then F (h ▸ d) k else L j d k
abbrev nI (n : Nat) : Int := (n : Int)
def Abs {α β γ : Type} (f : α → γ) (g : β → γ) : α ⊕ β → γ
 | .inl a => f a
 | .inr b => g b
theorem o8 {R : Type} {np n : Nat} {cfg : Z6} {L : Lt R cfg.pat} {c : Code} {key : Nat} (hkey : B0 c = key) (hm : P.follows .mixedOrders = true) (hs : A7 P cfg.sigs) (hn : cfg.n = n) (hnp : cfg.np = np)
  (hL : ∀ d k (r : R), L key d k = some r → ∃ m, Ot np (cfg.pat key) (fun s nid k => ev P cfg L c s nid k) m d k = some r) (hL' : ∀ c' ∈ Bi c, Cn P R n np cfg.pat L c') : Cn P R n np cfg.pat L c := by
 subst hkey
 exact Z8 hm hs hn hnp hL hL'
theorem B9 {α β γ δ : Type} (f : α → Option γ) (g : β → Option γ) (o : α ⊕ β) (h : γ → Option δ) : (Abs f g o).bind h = Abs (fun a => (f a).bind h) (fun b => (g b).bind h) o := by cases o <;> rfl
theorem De {α β : Type} (c : Prop) [Decidable c] (x y : Option α) (f : α → Option β) : (if c then x else y).bind f = if c then x.bind f else y.bind f := by split <;> rfl
theorem Ct {α β : Type} (c : Bool) (x y : Option α) (f : α → Option β) : (bif c then x else y).bind f = bif c then x.bind f else y.bind f := by cases c <;> rfl
end
end Go.Proofs.Ytkfoebbjncngjaa.R

