/- A function's body, evaluated, and its contract. No condition. -/
import Derived.Test.YtkfoebbjncngjaaRCode
namespace Go.Proofs.Ytkfoebbjncngjaa.R
open Go Go.RowKit
set_option linter.unusedVariables false
set_option linter.unusedSimpArgs false
def Np (s : St) : List Md → Nat → List Lf
 | [], _ => []
 | .rd _ :: ps, id => Np s ps id
 | .own _ _ :: ps, id => Np s ps (id + 1)
 | .bx _ _ :: ps, id => (match s.res id with | .box _ ls => ls | _ => []) ++ Np s ps (id + 1)
 | .mu _ _ :: ps, id => Np s ps (id + 1)
def bkD (s : St) : (ps : List Md) → Nat → Option (N3 ps)
 | [], _ => some ()
 | .rd _ :: ps, id => bkD s ps id
 | .own _ _ :: ps, id => bkD s ps (id + 1)
 | .bx T t :: ps, id => match s.res id with
  | .box T' ls => if T' = T then (match s.parse t ls with
   | some (z, []) => (bkD s ps (id + 1)).bind fun q => some (z, q)
   | _ => none) else none
  | _ => none
 | .mu e t :: ps, id => match s.res id with
  | .row e' t' xs => if e' = e then (if h : t' = t then (bkD s ps (id + 1)).bind fun q => some (h ▸ xs, q) else none) else none
  | _ => none
def Dj : List Md → Nat → List Nat
 | [], _ => []
 | .rd _ :: ps, id => Dj ps id
 | .own _ _ :: ps, id => Dj ps (id + 1)
 | .bx _ _ :: ps, id => id :: Dj ps (id + 1)
 | .mu _ _ :: ps, id => id :: Dj ps (id + 1)
def fin (P : Program) (sg : Sig) (rv : List ResultVar) : Kt (Ir sg.rs × N3 sg.ps) := fun e s nid => match e with
 | .exit _ => none
 | _ => match Gu P s rv with
  | none => none
  | some vs => match l9 sg.rsh vs with
   | none => none
   | some ls =>
    let sF := s.frz (Ea s sg.rs ls ++ Np s sg.ps 0)
    match Ge sF sg.rs ls with
    | none => none
    | some q => match bkD sF sg.ps 0 with
     | none => none
     | some z => bif Hv (Am q.2 ++ Dj sg.ps 0) then some (q.1, z) else none
def B7 (fn : Func) : Code := match fn.body with
 | some c => c
 | none => .skip
def Ky (sg : Sig) (x : Ir sg.ps) (vs : List Vl) : St := ⟨fun i => match vs[i]? with | some v => .vl v | none => .dead, E5 sg.ps x 0 (fun _ => .unborn)⟩
def Adm (P : Program) (sigs : Tb) (pat : Nat → Pat × (Nat → Pat)) (sg : Sig) (fn : Func) (L : Lt (Ir sg.rs × N3 sg.ps) pat) (x : Ir sg.ps) : Option (Ir sg.rs × N3 sg.ps) :=
 match fn.body, shV sg.psh (Yi sg.ps x 0) with
 | some c, some vs => bif Nat.ble vs.length fn.ntmps then ev P ⟨sigs, Ei sg.ps, fn.ntmps, pat⟩ L c (Ky sg x vs) (Ei sg.ps) (fin P sg fn.results.toList) else none
 | _, _ => none
section
variable {P : Program} {n B : Nat} {Iq : List Nat} {s : St} {g : Gh} {a : Act} {w : World}
theorem L5 : ∀ {ps : List Md} {id j : Nat}, j ∈ Dj ps id → id ≤ j ∧ j < id + Ei ps
 | [], _, _, h => by simp [Dj] at h
 | .rd _ :: ps, id, j, h => L5 (ps := ps) h
 | .own _ _ :: ps, id, j, h => by
  have := L5 (ps := ps) h
  simp only [Ei]
  omega
 | .bx _ _ :: ps, id, j, h => by
  simp only [Dj, List.mem_cons] at h
  simp only [Ei]
  rcases h with rfl | h
  ·omega
  ·have := L5 (ps := ps) h
   omega
 | .mu _ _ :: ps, id, j, h => by
  simp only [Dj, List.mem_cons] at h
  simp only [Ei]
  rcases h with rfl | h
  ·omega
  ·have := L5 (ps := ps) h
   omega
theorem f5 (hres : ∀ id, Ep s g w id (s.res id)) {g0 : Gh} : ∀ {ps : List Md} {id : Nat} {us : List Value} {y : N3 ps} {x : Ir ps} {w0 : World} {S : Nat → Prop}, bkD s ps id = some y → HR w0 S ps x us →
  (∀ j, j ∈ Dj ps id → (∀ T ls, s.res j = .box T ls → g.blk j = (Dx ps us id g0).blk j) ∧ ∀ e, ∀ t : Ty, ∀ xs : List t.D, s.res j = .row e t xs → g.blk j = (Dx ps us id g0).blk j ∧ g.hdr j = (Dx ps us id g0).hdr j) →
  n7 w (Bw s g) ps y us ∧ Km ps us = Nk g ((Dj ps id).map some) ∧ ∀ j ∈ Dj ps id, (s.res j).live = true
 | [], _, _, _, _, _, _, _, _, _ => ⟨trivial, rfl, by simp [Dj]⟩
 | .rd t :: ps, id, us, y, x, w0, S, e, ⟨c1, c2, h1, h2, h3⟩, hp => by
  subst h1
  have hd : (c1 ++ c2).drop t.sz = c2 := by rw [← Ty.K_len h2]; simp
  simp only [n7, Km, hd]
  exact f5 (ps := ps) (x := x.2) hres e h3 (fun j q1 => by have := hp j q1; simp only [Dx, hd] at this; exact this)
 | .own e0 t :: ps, id, us, y, x, w0, S, e, ⟨u, c2, h1, h2, h3⟩, hp => by
  subst h1
  simp only [n7, Km, List.tail_cons]
  exact f5 (ps := ps) (x := x.2) hres e h3 (fun j q1 => by have := hp j q1; simp only [Dx, List.tail_cons] at this; exact this)
 | .bx T t :: ps, id, us, y, x, w0, S, e, ⟨b, c2, h1, h2, h3⟩, hp => by
  subst h1
  simp only [bkD] at e
  split at e
  ·rename_i T' ls hr
   split at e
   ·rename_i hT
    split at e
    ·rename_i z hz
     obtain ⟨q, e1, e2⟩ := Option.bind_eq_some_iff.1 e
     cases e2
     subst hT
     have hb0 := (hp id (by simp [Dj])).1 T' ls hr
     simp only [Dx, List.head?_cons, List.tail_cons] at hb0
     rw [(A3 ps c2 (id + 1) _ id (by omega)).1] at hb0
     simp only [Ai] at hb0
     have hb : g.blk id = some b := hb0
     have r := hres id
     rw [hr] at r
     obtain ⟨b', cs, k1, k2, k3⟩ := r
     obtain rfl : b = b' := Option.some.inj (hb.symm.trans k1)
     obtain ⟨e3, k4⟩ := St.parse_K hres hz k3
     have hlen : cs.toList.take t.sz = cs.toList := by
      apply List.take_of_length_le
      have : ls.length ≤ t.sz := List.drop_eq_nil_iff.1 e3.symm
      rw [k3.length]; exact this
     rw [hlen] at k4
     obtain ⟨i1, i2, i3⟩ := f5 (ps := ps) (x := x.2) (us := c2) hres e1 h3 (fun j q1 => by
      have := hp j (by simp [Dj, q1])
      simp only [Dx, List.tail_cons] at this
      exact this)
     refine ⟨⟨⟨b, rfl, cs, k2, k4⟩, i1⟩, ?_, ?_⟩
     ·simp only [Km, Dj, List.map_cons, Nk, List.head?_cons, Option.bind_some, List.tail_cons, G1, hb, i2]
     ·intro j hj
      simp only [Dj, List.mem_cons] at hj
      rcases hj with rfl | hj
      ·rw [hr]; rfl
      ·exact i3 j hj
    ·cases e
   ·cases e
  ·cases e
 | .mu e0 t :: ps, id, us, y, x, w0, S, e, ⟨u, c2, h1, h2, h3⟩, hp => by
  subst h1
  simp only [bkD] at e
  split at e
  ·rename_i e' t' xs hr
   split at e
   ·rename_i he
    split at e
    ·rename_i ht
     obtain ⟨q, e1, e2⟩ := Option.bind_eq_some_iff.1 e
     cases e2
     subst he ht
     obtain ⟨hb0, hh0⟩ := (hp id (by simp [Dj])).2 e' t' xs hr
     simp only [Dx, List.head?_cons, List.tail_cons, List.headD_cons] at hb0 hh0
     rw [(A3 ps c2 (id + 1) _ id (by omega)).1] at hb0
     rw [(A3 ps c2 (id + 1) _ id (by omega)).2] at hh0
     simp only [Ai, Option.bind_some] at hb0 hh0
     have r := hres id
     rw [hr] at r
     obtain ⟨cs, k1, k2, k3⟩ := r
     rw [hh0] at k1
     obtain ⟨i1, i2, i3⟩ := f5 (ps := ps) (x := x.2) (us := c2) hres e1 h3 (fun j q1 => by
      have := hp j (by simp [Dj, q1])
      simp only [Dx, List.tail_cons] at this
      exact this)
     refine ⟨⟨⟨u, rfl, cs, k1, k2⟩, i1⟩, ?_, ?_⟩
     ·simp only [Km, Dj, List.map_cons, Nk, List.head?_cons, Option.bind_some, List.tail_cons, hb0, i2]
     ·intro j hj
      simp only [Dj, List.mem_cons] at hj
      rcases hj with rfl | hj
      ·rw [hr]; rfl
      ·exact i3 j hj
    ·cases e
   ·cases e
  ·cases e
theorem Xb (a b : List (Option Nat)) : Am (a ++ b) = Am a ++ Am b := by
 induction a with
 | nil => rfl
 | cons x r ih => cases x <;> simp [Am, ih]
theorem Xc (l : List Nat) : Am (l.map some) = l := by
 induction l with
 | nil => rfl
 | cons x r ih => simp [Am, ih]
theorem Afb (g : Gh) (a b : List (Option Nat)) : Nk g (a ++ b) = Nk g a ++ Nk g b := by
 induction a with
 | nil => rfl
 | cons x r ih => simp [Nk, ih]
theorem H4 : ∀ {ps : List Md} {x : Ir ps} {id j : Nat} {res : Nat → Res}, j ∈ Dj ps id → (E5 ps x id res j).live = true
 | [], _, _, _, _, h => by simp [Dj] at h
 | .rd _ :: ps, x, id, j, res, h => H4 (ps := ps) h
 | .own e t :: ps, x, id, j, res, h => H4 (ps := ps) h
 | .bx T t :: ps, x, id, j, res, h => by
  simp only [Dj, List.mem_cons] at h
  rcases h with rfl | h
  ·have : E5 (.bx T t :: ps) x j res j = .box T (t.leafs x.1) := (Dd ps x.2 (j + 1) _ j (by omega)).trans (Ai _ _ _)
   rw [this]
   rfl
  ·exact H4 (ps := ps) h
 | .mu e t :: ps, x, id, j, res, h => by
  simp only [Dj, List.mem_cons] at h
  rcases h with rfl | h
  ·have : E5 (.mu e t :: ps) x j res j = .row e t x.1 := (Dd ps x.2 (j + 1) _ j (by omega)).trans (Ai _ _ _)
   rw [this]
   rfl
  ·exact H4 (ps := ps) h
theorem Adn {sigs : Tb} {pat : Nat → Pat × (Nat → Pat)} {f : FuncId} {fn : Func} {sg : Sig} {den : Ir sg.ps → Option (Ir sg.rs × N3 sg.ps)} (hm : P.follows .mixedOrders = true) (hs : Az P sigs)
  (hf : P.funcs[f]? = some fn) (hname : (fn.name == "runtime.NumGoroutine") = false) (hbody : fn.body.isNone = false) (hden : ∀ x r, den x = some r → ∃ L, (∀ c ∈ At (B7 fn), Bb P (Ir sg.rs × N3 sg.ps) fn.ntmps (Ei sg.ps) pat L c) ∧ Adm P sigs pat sg fn L x = some r) : Ej P f ∧ Rs P f sg den := by
 have sound : Rs P f sg den := by
  intro x r hx w S us args hHR hSh hOwn
  obtain ⟨L, hLo, he⟩ := hden x r hx
  unfold Adm at he
  split at he
  ·rename_i c vs hb hvs
   have hbo : B7 fn = c := by unfold B7; rw [hb]
   rw [hbo] at hLo
   obtain ⟨hle, he⟩ := Gn he
   have hle := Nat.le_of_ble_eq_true hle
   refine calls_of_wp hf hb ?_
   generalize hg0 : Dx sg.ps us 0 ⟨fun _ => none, fun _ => undef, fun b => b < w.heap.size ∧ ¬ S b ∧ b ∉ B4 sg.ps us⟩ = g0
   have hav : g0.av = fun b => b < w.heap.size ∧ ¬ S b ∧ b ∉ B4 sg.ps us := by rw [← hg0]; exact Kn _ _ _ _
   have hin : ∀ j b, g0.blk j = some b → j < Ei sg.ps ∧ b ∈ B4 sg.ps us := by
    intro j b q
    by_cases hj : j < Ei sg.ps
    ·rw [← hg0] at q
     exact ⟨hj, Er _ _ _ _ j b (by omega) (by omega) q⟩
    ·rw [← hg0, (A3 _ _ _ _ j (by omega)).1] at q
     cases q
   have hSof : ∀ b, S b → b < w.heap.size → Bw (Ky sg x vs) g0 b := by
    intro b hb _
    refine ⟨by rw [hav]; exact fun q => q.2.1 hb, fun j _ q => ?_⟩
    exact (hOwn.2 b (hin j b q).2).2 hb
   obtain ⟨hL, hR⟩ := Wk (s := Ky sg x vs) (g := g0) hSof sg.ps x us 0 (fun _ => .unborn) ⟨fun _ => none, fun _ => undef, fun b => b < w.heap.size ∧ ¬ S b ∧ b ∉ B4 sg.ps us⟩ hHR (fun j _ _ => ⟨rfl, by rw [hg0], by rw [hg0]⟩)
   have hV := z7 hvs hL hSh
   have hargs : args.length = vs.length := hV.length
   have hent : Ax fn.ntmps w.heap.size (B4 sg.ps us) (Ky sg x vs) g0 { tmps := args.toArray ++ Array.replicate (fn.ntmps - args.toArray.size) undef, defers := [] } w := by
    refine ⟨by simp; omega, rfl, Nat.le_refl _, fun i => ?_, fun j => ?_, fun i j b q1 q2 => ?_, fun j b q => ?_, fun b q => ?_⟩
    ·show I7 _ _ _ (match vs[i]? with | some v => .vl v | none => .dead) _
     cases hi : vs[i]? with
     | none => trivial
     | some v =>
      obtain ⟨u, e1, e2⟩ := hV.get hi
      have hlt := (List.getElem?_eq_some_iff.1 e1).1
      have : (args.toArray ++ Array.replicate (fn.ntmps - args.toArray.size) undef).getD i undef = u := by
       rw [Array.getD_eq_getD_getElem?, Array.getElem?_append_left (by simpa using hlt), List.getElem?_toArray, e1]
       rfl
      rw [this]
      exact e2
    ·by_cases hj : j < Ei sg.ps
     ·exact (hR j (by omega) (by omega)).1
     ·have h1 : (Ky sg x vs).res j = .unborn := Dd _ _ _ _ j (by omega)
      rw [h1]
      show g0.blk j = none
      cases hq : g0.blk j with
      | none => rfl
      | some b => exact absurd (hin j b hq).1 hj
    ·rw [← hg0] at q1 q2
     refine Jn _ _ _ _ i j b hOwn.1 (by omega) ?_ (by omega) ?_ q1 q2
     ·rw [hg0] at q1; have := (hin i b q1).1; omega
     ·rw [hg0] at q2; have := (hin j b q2).1; omega
    ·have := (hin j b q).2
     exact ⟨(hOwn.2 b this).1, .inl this, by rw [hav]; exact fun q => q.2.2 this⟩
    ·rw [hav] at q
     exact q.1
   have hgx : Gx (Ei sg.ps) w.heap.size (B4 sg.ps us) (Ky sg x vs) g0 w (Ky sg x vs) g0 w := by
    refine ⟨Kp.refl _ _ _, rfl, fun id _ hl => ⟨fun q => (by rw [q] at hl; cases hl), fun T ls q => ⟨⟨T, ls, q⟩, rfl⟩, fun e t xs q => ⟨⟨e, xs, q⟩, rfl, rfl⟩⟩⟩
   refine Adl (r := r) (Q := bodyPost P fn _) (cfg := ⟨sigs, Ei sg.ps, fn.ntmps, pat⟩) (L := L) hm hs rfl rfl c hLo (fun e s' nid' g' a' w' hk hR' hX' => ?_) he hent hgx
   have hfin : ∀ {vs' : List Vl} {ls : List Lf} {q : Ir sg.rs × List (Option Nat)} {z : N3 sg.ps}, Gu P s' fn.results.toList = some vs' → l9 sg.rsh vs' = some ls →
     Ge (s'.frz (Ea s' sg.rs ls ++ Np s' sg.ps 0)) sg.rs ls = some q → bkD (s'.frz (Ea s' sg.rs ls ++ Np s' sg.ps 0)) sg.ps 0 = some z → Hv (Am q.2 ++ Dj sg.ps 0) = true →
     a'.defers = [] ∧ ∃ v, (results fn a'.tmps).run P w' = .ok v w' ∧ ∃ vs us', Ending.returned v = .returned (Yh vs) ∧ z2 sg.rsh vs us' ∧ Dy (B4 sg.ps us) w w' ∧
      HR w' (Rr w S (B4 sg.ps us) (B4 sg.rs us' ++ Km sg.ps us)) sg.rs q.1 us' ∧ n7 w' (Rr w S (B4 sg.ps us) (B4 sg.rs us' ++ Km sg.ps us)) sg.ps z us ∧
      (B4 sg.rs us' ++ Km sg.ps us).Nodup ∧ ∀ b ∈ B4 sg.rs us', b < w'.heap.size ∧ (b ∈ B4 sg.ps us ∨ w.heap.size ≤ b) := by
    intro vs' ls q z h1 h2 h3 h4 h5
    obtain ⟨us1, r1, r2⟩ := Ry hR' h1
    obtain ⟨cs, hsh, hL'⟩ := z6 h2 r2
    obtain ⟨gF, hF, goF, hlf⟩ := B6 (ls := Ea s' sg.rs ls ++ Np s' sg.ps 0) hR'
    have hXF := hX'.step goF
    have hLF := hL'.imp hlf
    obtain ⟨k1, k2, k3⟩ := Wm hF.res (x := q.1) (ow := q.2) h3 hLF
    obtain ⟨b1, b2, b3⟩ := f5 hF.res (g0 := ⟨fun _ => none, fun _ => undef, fun b => b < w.heap.size ∧ ¬ S b ∧ b ∉ B4 sg.ps us⟩) (x := x) (us := us) h4 hHR (fun j q1 => by
     have hj := L5 q1
     obtain ⟨_, p2, p3⟩ := hXF.pin j (show j < Ei sg.ps by omega) (H4 q1)
     rw [hg0]
     exact ⟨fun T bl q2 => (p2 T bl q2).2, fun e t xs q2 => (p3 e t xs q2).2⟩)
    have hnd := Pf h5
    have hgone : B4 sg.rs cs ++ Km sg.ps us = Nk gF (q.2 ++ (Dj sg.ps 0).map some) := by rw [k2, b2, Afb]
    have hS2 : ∀ b, Bw (s'.frz (Ea s' sg.rs ls ++ Np s' sg.ps 0)) gF b → b < w'.heap.size → Rr w S (B4 sg.ps us) (B4 sg.rs cs ++ Km sg.ps us) b := by
     rintro b ⟨q1, q2⟩ _
     rw [hXF.av, hav] at q1
     refine ⟨?_, fun hq => ?_⟩
     ·by_cases c1 : S b
      ·exact .inl c1
      ·by_cases c2 : b ∈ B4 sg.ps us
       ·exact .inr (.inl c2)
       ·right; right
        rcases Nat.lt_or_ge b w.heap.size with c3 | c3
        ·exact absurd ⟨c3, c1, c2⟩ q1
        ·exact c3
     ·rw [hgone] at hq
      obtain ⟨id, p1, p2⟩ := Ho.1 hq
      rw [Xb, Xc] at p1
      rcases List.mem_append.1 p1 with p1 | p1
      ·exact q2 id (k3 id p1) p2
      ·exact q2 id (b3 id p1) p2
    refine ⟨hR'.defers, _, r1, us1, cs, rfl, hsh, ⟨hX'.kp.os, hX'.kp.tape, hX'.kp.output, hX'.kp.size, fun k q1 q2 => hX'.kp.block k q1 q2⟩, Qk (.inr hS2) k1, My (.inr hS2) b1, ?_, fun b hb => ?_⟩
    ·rw [hgone]
     exact Mx hF.inj (by rw [Xb, Xc]; exact hnd)
    ·rw [k2] at hb
     obtain ⟨id, p1, p2⟩ := Ho.1 hb
     obtain ⟨q1, q2, _⟩ := hF.lt id b p2
     exact ⟨q1, q2⟩
   have hend : ∀ (e : Ex), (∀ id, e ≠ .exit id) → (match Gu P s' fn.results.toList with
     | none => none
     | some vs => match l9 sg.rsh vs with
      | none => none
      | some ls =>
       let sF := s'.frz (Ea s' sg.rs ls ++ Np s' sg.ps 0)
       match Ge sF sg.rs ls with
       | none => none
       | some q => match bkD sF sg.ps 0 with
        | none => none
        | some z => bif Hv (Am q.2 ++ Dj sg.ps 0) then some (q.1, z) else none) = some r → bodyPost P fn (fun e w' => ∃ vs us', e = .returned (Yh vs) ∧ z2 sg.rsh vs us' ∧ Dy (B4 sg.ps us) w w' ∧
       HR w' (Rr w S (B4 sg.ps us) (B4 sg.rs us' ++ Km sg.ps us)) sg.rs r.1 us' ∧ n7 w' (Rr w S (B4 sg.ps us) (B4 sg.rs us' ++ Km sg.ps us)) sg.ps r.2 us ∧
       (B4 sg.rs us' ++ Km sg.ps us).Nodup ∧ ∀ b ∈ B4 sg.rs us', b < w'.heap.size ∧ (b ∈ B4 sg.ps us ∨ w.heap.size ≤ b)) e.to a' w' := by
    intro e hne h
    split at h
    ·cases h
    ·rename_i vs' h1
     split at h
     ·cases h
     ·rename_i ls h2
      dsimp only at h
      split at h
      ·cases h
      ·rename_i q h3
       split at h
       ·cases h
       ·rename_i z h4
        obtain ⟨h5, h6⟩ := Gn h
        cases h6
        obtain ⟨f1, v, f2, f3⟩ := hfin h1 h2 h3 h4 h5
        cases e with
        | normal => exact ⟨f1, v, f2, f3⟩
        | ret => exact ⟨f1, v, f2, f3⟩
        | exit id => exact absurd rfl (hne id)
   cases e with
   | normal => exact hend .normal (fun id q => by cases q) hk
   | ret => exact hend .ret (fun id q => by cases q) hk
   | exit id => cases hk
  ·cases he
 exact ⟨⟨fn, hf, hname, hbody⟩, sound⟩
def P4 : Nat → Pat × (Nat → Pat) := fun _ => (⟨[], [], []⟩, fun _ => ⟨[], [], []⟩)
def O6 {R : Type} {pat : Nat → Pat × (Nat → Pat)} : Lt R pat := fun _ _ _ => none
def Hb {R : Type} {pat : Nat → Pat × (Nat → Pat)} (key : Nat) (F : (pat key).1.D → Kt R → Option R) (L : Lt R pat) : Lt R pat := fun j d k => if h : j = key then F (h ▸ d) k else L j d k
abbrev nI (n : Nat) : Int := (n : Int)
def Eb {α β γ : Type} (f : α → γ) (g : β → γ) : α ⊕ β → γ
 | .inl a => f a
 | .inr b => g b
theorem Ado {R : Type} {np n : Nat} {cfg : Zo} {L : Lt R cfg.pat} {c : Code} {key : Nat} (hkey : Bz c = key) (hm : P.follows .mixedOrders = true) (hs : Az P cfg.sigs) (hn : cfg.n = n) (hnp : cfg.np = np)
  (hL : ∀ d k (r : R), L key d k = some r → ∃ m, R3 np (cfg.pat key) (fun s nid k => ev P cfg L c s nid k) m d k = some r) (hL' : ∀ c' ∈ At c, Bb P R n np cfg.pat L c') : Bb P R n np cfg.pat L c := by
 subst hkey
 exact Ab0 hm hs hn hnp hL hL'
theorem Au {α β γ δ : Type} (f : α → Option γ) (g : β → Option γ) (o : α ⊕ β) (h : γ → Option δ) : (Eb f g o).bind h = Eb (fun a => (f a).bind h) (fun b => (g b).bind h) o := by cases o <;> rfl
theorem A9 {α β : Type} (c : Prop) [Decidable c] (x y : Option α) (f : α → Option β) : (if c then x else y).bind f = if c then x.bind f else y.bind f := by split <;> rfl
theorem A2 {α β : Type} (c : Bool) (x y : Option α) (f : α → Option β) : (bif c then x else y).bind f = bif c then x.bind f else y.bind f := by cases c <;> rfl
end
end Go.Proofs.Ytkfoebbjncngjaa.R

