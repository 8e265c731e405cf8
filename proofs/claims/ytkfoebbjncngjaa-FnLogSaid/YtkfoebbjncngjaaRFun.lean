/- A function's body, evaluated, and its contract. No condition. -/
import Derived.Test.YtkfoebbjncngjaaRCode
namespace Go.Proofs.Ytkfoebbjncngjaa.R
open Go Go.RowKit
set_option linter.unusedVariables false
set_option linter.unusedSimpArgs false
def Nz (s : St) : List Md → Nat → List Lf
 | [], _ => []
 | .rd _ :: ps, id => Nz s ps id
 | .own _ _ :: ps, id => Nz s ps (id + 1)
 | .bx _ _ :: ps, id => (match s.res id with | .box _ ls => ls | _ => []) ++ Nz s ps (id + 1)
 | .mu _ _ :: ps, id => Nz s ps (id + 1)
def bkD (s : St) : (ps : List Md) → Nat → Option (Og ps)
 | [], _ => some ()
 | .rd _ :: ps, id => bkD s ps id
 | .own _ _ :: ps, id => bkD s ps (id + 1)
 | .bx T t :: ps, id => match s.res id with
  | .box T' ls => if T' = T then (match s.parse t ls with
   | some (z, []) => (bkD s ps (id + 1)).bind fun q => some (z, q)
   | _ => none) else none
  | _ => none
 | .mu e t :: ps, id => match s.res id with
  | .row e' t' xs => if e' = e then (if h : t' = t then (bkD s ps (id + 1)).bind fun q => some (h ▸ xs, q) else none) else none
  | _ => none
def Dr : List Md → Nat → List Nat
 | [], _ => []
 | .rd _ :: ps, id => Dr ps id
 | .own _ _ :: ps, id => Dr ps (id + 1)
 | .bx _ _ :: ps, id => id :: Dr ps (id + 1)
 | .mu _ _ :: ps, id => id :: Dr ps (id + 1)
def fin (P : Program) (sg : Sig) (rv : List ResultVar) : Kt (I8 sg.rs × Og sg.ps) := fun e s nid => match e with
 | .exit _ => none
 | _ => match He P s rv with
  | none => none
  | some vs => match z8 sg.rsh vs with
   | none => none
   | some ls =>
    let sF := s.frz (Eh s sg.rs ls ++ Nz s sg.ps 0)
    match Gn sF sg.rs ls with
    | none => none
    | some q => match bkD sF sg.ps 0 with
     | none => none
     | some z => bif Ia (An q.2 ++ Dr sg.ps 0) then some (q.1, z) else none
def Cf (fn : Func) : Code := match fn.body with
 | some c => c
 | none => .skip
def K8 (sg : Sig) (x : I8 sg.ps) (vs : List Vl) : St := ⟨fun i => match vs[i]? with | some v => .vl v | none => .dead, Fa sg.ps x 0 (fun _ => .unborn)⟩
def Aet (P : Program) (sigs : Tb) (pat : Nat → Pat × (Nat → Pat)) (sg : Sig) (fn : Func) (L : Lt (I8 sg.rs × Og sg.ps) pat) (x : I8 sg.ps) : Option (I8 sg.rs × Og sg.ps) :=
 match fn.body, shV sg.psh (Zc sg.ps x 0) with
 | some c, some vs => bif Nat.ble vs.length fn.ntmps then ev P ⟨sigs, En sg.ps, fn.ntmps, pat⟩ L c (K8 sg x vs) (En sg.ps) (fin P sg fn.results.toList) else none
 | _, _ => none
section
variable {P : Program} {n B : Nat} {Iq : List Nat} {s : St} {g : Gh} {a : Act} {w : World}
theorem Mi : ∀ {ps : List Md} {id j : Nat}, j ∈ Dr ps id → id ≤ j ∧ j < id + En ps
 | [], _, _, h => by simp [Dr] at h
 | .rd _ :: ps, id, j, h => Mi (ps := ps) h
 | .own _ _ :: ps, id, j, h => by
  have := Mi (ps := ps) h
  simp only [En]
  omega
 | .bx _ _ :: ps, id, j, h => by
  simp only [Dr, List.mem_cons] at h
  simp only [En]
  rcases h with rfl | h
  ·omega
  ·have := Mi (ps := ps) h
   omega
 | .mu _ _ :: ps, id, j, h => by
  simp only [Dr, List.mem_cons] at h
  simp only [En]
  rcases h with rfl | h
  ·omega
  ·have := Mi (ps := ps) h
   omega
theorem m5 (hres : ∀ id, Ew s g w id (s.res id)) {g0 : Gh} : ∀ {ps : List Md} {id : Nat} {us : List Value} {y : Og ps} {x : I8 ps} {w0 : World} {S : Nat → Prop}, bkD s ps id = some y → HR w0 S ps x us →
  (∀ j, j ∈ Dr ps id → (∀ T ls, s.res j = .box T ls → g.blk j = (D3 ps us id g0).blk j) ∧ ∀ e, ∀ t : Ty, ∀ xs : List t.D, s.res j = .row e t xs → g.blk j = (D3 ps us id g0).blk j ∧ g.hdr j = (D3 ps us id g0).hdr j) →
  BkR w (Bz s g) ps y us ∧ Kx ps us = Nv g ((Dr ps id).map some) ∧ ∀ j ∈ Dr ps id, (s.res j).live = true
 | [], _, _, _, _, _, _, _, _, _ => ⟨trivial, rfl, by simp [Dr]⟩
 | .rd t :: ps, id, us, y, x, w0, S, e, ⟨c1, c2, h1, h2, h3⟩, hp => by
  subst h1
  have hd : (c1 ++ c2).drop t.sz = c2 := by rw [← Ty.K_len h2]; simp
  simp only [BkR, Kx, hd]
  exact m5 (ps := ps) (x := x.2) hres e h3 (fun j q1 => by have := hp j q1; simp only [D3, hd] at this; exact this)
 | .own e0 t :: ps, id, us, y, x, w0, S, e, ⟨u, c2, h1, h2, h3⟩, hp => by
  subst h1
  simp only [BkR, Kx, List.tail_cons]
  exact m5 (ps := ps) (x := x.2) hres e h3 (fun j q1 => by have := hp j q1; simp only [D3, List.tail_cons] at this; exact this)
 | .bx T t :: ps, id, us, y, x, w0, S, e, ⟨b, c2, h1, h2, h3⟩, hp => by
  subst h1
  simp only [bkD] at e
  split at e
  ·rename_i T' ls hr
   split at e
   ·rename_i hT
    split at e
    ·rename_i z hz
     obtain ⟨q, e1, e2⟩ := Option.bind_eq_some_iff.1 e
     cases e2
     subst hT
     have hb0 := (hp id (by simp [Dr])).1 T' ls hr
     simp only [D3, List.head?_cons, List.tail_cons] at hb0
     rw [(A5 ps c2 (id + 1) _ id (by omega)).1] at hb0
     simp only [Ak] at hb0
     have hb : g.blk id = some b := hb0
     have r := hres id
     rw [hr] at r
     obtain ⟨b', cs, k1, k2, k3⟩ := r
     obtain rfl : b = b' := Option.some.inj (hb.symm.trans k1)
     obtain ⟨e3, k4⟩ := St.parse_K hres hz k3
     have hlen : cs.toList.take t.sz = cs.toList := by
      apply List.take_of_length_le
      have : ls.length ≤ t.sz := List.drop_eq_nil_iff.1 e3.symm
      rw [k3.length]; exact this
     rw [hlen] at k4
     obtain ⟨i1, i2, i3⟩ := m5 (ps := ps) (x := x.2) (us := c2) hres e1 h3 (fun j q1 => by
      have := hp j (by simp [Dr, q1])
      simp only [D3, List.tail_cons] at this
      exact this)
     refine ⟨⟨⟨b, rfl, cs, k2, k4⟩, i1⟩, ?_, ?_⟩
     ·simp only [Kx, Dr, List.map_cons, Nv, List.head?_cons, Option.bind_some, List.tail_cons, Hi, hb, i2]
     ·intro j hj
      simp only [Dr, List.mem_cons] at hj
      rcases hj with rfl | hj
      ·rw [hr]; rfl
      ·exact i3 j hj
    ·cases e
   ·cases e
  ·cases e
 | .mu e0 t :: ps, id, us, y, x, w0, S, e, ⟨u, c2, h1, h2, h3⟩, hp => by
  subst h1
  simp only [bkD] at e
  split at e
  ·rename_i e' t' xs hr
   split at e
   ·rename_i he
    split at e
    ·rename_i ht
     obtain ⟨q, e1, e2⟩ := Option.bind_eq_some_iff.1 e
     cases e2
     subst he ht
     obtain ⟨hb0, hh0⟩ := (hp id (by simp [Dr])).2 e' t' xs hr
     simp only [D3, List.head?_cons, List.tail_cons, List.headD_cons] at hb0 hh0
     rw [(A5 ps c2 (id + 1) _ id (by omega)).1] at hb0
     rw [(A5 ps c2 (id + 1) _ id (by omega)).2] at hh0
     simp only [Ak, Option.bind_some] at hb0 hh0
     have r := hres id
     rw [hr] at r
     obtain ⟨cs, k1, k2, k3⟩ := r
     rw [hh0] at k1
     obtain ⟨i1, i2, i3⟩ := m5 (ps := ps) (x := x.2) (us := c2) hres e1 h3 (fun j q1 => by
      have := hp j (by simp [Dr, q1])
      simp only [D3, List.tail_cons] at this
      exact this)
     refine ⟨⟨⟨u, rfl, cs, k1, k2⟩, i1⟩, ?_, ?_⟩
     ·simp only [Kx, Dr, List.map_cons, Nv, List.head?_cons, Option.bind_some, List.tail_cons, hb0, i2]
     ·intro j hj
      simp only [Dr, List.mem_cons] at hj
      rcases hj with rfl | hj
      ·rw [hr]; rfl
      ·exact i3 j hj
    ·cases e
   ·cases e
  ·cases e
theorem Yi (a b : List (Option Nat)) : An (a ++ b) = An a ++ An b := by
 induction a with
 | nil => rfl
 | cons x r ih => cases x <;> simp [An, ih]
theorem Yj (l : List Nat) : An (l.map some) = l := by
 induction l with
 | nil => rfl
 | cons x r ih => simp [An, ih]
theorem Agr (g : Gh) (a b : List (Option Nat)) : Nv g (a ++ b) = Nv g a ++ Nv g b := by
 induction a with
 | nil => rfl
 | cons x r ih => simp [Nv, ih]
theorem Ii : ∀ {ps : List Md} {x : I8 ps} {id j : Nat} {res : Nat → Res}, j ∈ Dr ps id → (Fa ps x id res j).live = true
 | [], _, _, _, _, h => by simp [Dr] at h
 | .rd _ :: ps, x, id, j, res, h => Ii (ps := ps) h
 | .own e t :: ps, x, id, j, res, h => Ii (ps := ps) h
 | .bx T t :: ps, x, id, j, res, h => by
  simp only [Dr, List.mem_cons] at h
  rcases h with rfl | h
  ·have : Fa (.bx T t :: ps) x j res j = .box T (t.leafs x.1) := (Di ps x.2 (j + 1) _ j (by omega)).trans (Ak _ _ _)
   rw [this]
   rfl
  ·exact Ii (ps := ps) h
 | .mu e t :: ps, x, id, j, res, h => by
  simp only [Dr, List.mem_cons] at h
  rcases h with rfl | h
  ·have : Fa (.mu e t :: ps) x j res j = .row e t x.1 := (Di ps x.2 (j + 1) _ j (by omega)).trans (Ak _ _ _)
   rw [this]
   rfl
  ·exact Ii (ps := ps) h
theorem Aeu {sigs : Tb} {pat : Nat → Pat × (Nat → Pat)} {f : FuncId} {fn : Func} {sg : Sig} {den : I8 sg.ps → Option (I8 sg.rs × Og sg.ps)} (hm : P.follows .mixedOrders = true) (hs : Az P sigs)
  (hf : P.funcs[f]? = some fn) (hname : (fn.name == "runtime.NumGoroutine") = false) (hbody : fn.body.isNone = false) (hden : ∀ x r, den x = some r → ∃ L, (∀ c ∈ Aw (Cf fn), Bg P (I8 sg.rs × Og sg.ps) fn.ntmps (En sg.ps) pat L c) ∧ Aet P sigs pat sg fn L x = some r) : Ec P f ∧ L4 P f sg den := by
 have sound : L4 P f sg den := by
  intro x r hx w S us args hHR hSh hOwn
  obtain ⟨L, hLo, he⟩ := hden x r hx
  unfold Aet at he
  split at he
  ·rename_i c vs hb hvs
   have hbo : Cf fn = c := by unfold Cf; rw [hb]
   rw [hbo] at hLo
   obtain ⟨hle, he⟩ := Gz he
   have hle := Nat.le_of_ble_eq_true hle
   refine calls_of_wp hf hb ?_
   generalize hg0 : D3 sg.ps us 0 ⟨fun _ => none, fun _ => undef, fun b => b < w.heap.size ∧ ¬ S b ∧ b ∉ B7 sg.ps us⟩ = g0
   have hav : g0.av = fun b => b < w.heap.size ∧ ¬ S b ∧ b ∉ B7 sg.ps us := by rw [← hg0]; exact Ky _ _ _ _
   have hin : ∀ j b, g0.blk j = some b → j < En sg.ps ∧ b ∈ B7 sg.ps us := by
    intro j b q
    by_cases hj : j < En sg.ps
    ·rw [← hg0] at q
     exact ⟨hj, Ey _ _ _ _ j b (by omega) (by omega) q⟩
    ·rw [← hg0, (A5 _ _ _ _ j (by omega)).1] at q
     cases q
   have hSof : ∀ b, S b → b < w.heap.size → Bz (K8 sg x vs) g0 b := by
    intro b hb _
    refine ⟨by rw [hav]; exact fun q => q.2.1 hb, fun j _ q => ?_⟩
    exact (hOwn.2 b (hin j b q).2).2 hb
   obtain ⟨hL, hR⟩ := Xo (s := K8 sg x vs) (g := g0) hSof sg.ps x us 0 (fun _ => .unborn) ⟨fun _ => none, fun _ => undef, fun b => b < w.heap.size ∧ ¬ S b ∧ b ∉ B7 sg.ps us⟩ hHR (fun j _ _ => ⟨rfl, by rw [hg0], by rw [hg0]⟩)
   have hV := Abi hvs hL hSh
   have hargs : args.length = vs.length := hV.length
   have hent : Ax fn.ntmps w.heap.size (B7 sg.ps us) (K8 sg x vs) g0 { tmps := args.toArray ++ Array.replicate (fn.ntmps - args.toArray.size) undef, defers := [] } w := by
    refine ⟨by simp; omega, rfl, Nat.le_refl _, fun i => ?_, fun j => ?_, fun i j b q1 q2 => ?_, fun j b q => ?_, fun b q => ?_⟩
    ·show Jq _ _ _ (match vs[i]? with | some v => .vl v | none => .dead) _
     cases hi : vs[i]? with
     | none => trivial
     | some v =>
      obtain ⟨u, e1, e2⟩ := hV.get hi
      have hlt := (List.getElem?_eq_some_iff.1 e1).1
      have : (args.toArray ++ Array.replicate (fn.ntmps - args.toArray.size) undef).getD i undef = u := by
       rw [Array.getD_eq_getD_getElem?, Array.getElem?_append_left (by simpa using hlt), List.getElem?_toArray, e1]
       rfl
      rw [this]
      exact e2
    ·by_cases hj : j < En sg.ps
     ·exact (hR j (by omega) (by omega)).1
     ·have h1 : (K8 sg x vs).res j = .unborn := Di _ _ _ _ j (by omega)
      rw [h1]
      show g0.blk j = none
      cases hq : g0.blk j with
      | none => rfl
      | some b => exact absurd (hin j b hq).1 hj
    ·rw [← hg0] at q1 q2
     refine J2 _ _ _ _ i j b hOwn.1 (by omega) ?_ (by omega) ?_ q1 q2
     ·rw [hg0] at q1; have := (hin i b q1).1; omega
     ·rw [hg0] at q2; have := (hin j b q2).1; omega
    ·have := (hin j b q).2
     exact ⟨(hOwn.2 b this).1, .inl this, by rw [hav]; exact fun q => q.2.2 this⟩
    ·rw [hav] at q
     exact q.1
   have hgx : Gx (En sg.ps) w.heap.size (B7 sg.ps us) (K8 sg x vs) g0 w (K8 sg x vs) g0 w := by
    refine ⟨Kp.refl _ _ _, rfl, fun id _ hl => ⟨fun q => (by rw [q] at hl; cases hl), fun T ls q => ⟨⟨T, ls, q⟩, rfl⟩, fun e t xs q => ⟨⟨e, xs, q⟩, rfl, rfl⟩⟩⟩
   refine Ahm (r := r) (Q := bodyPost P fn _) (cfg := ⟨sigs, En sg.ps, fn.ntmps, pat⟩) (L := L) hm hs rfl rfl c hLo (fun e s' nid' g' a' w' hk hR' hX' => ?_) he hent hgx
   have hfin : ∀ {vs' : List Vl} {ls : List Lf} {q : I8 sg.rs × List (Option Nat)} {z : Og sg.ps}, He P s' fn.results.toList = some vs' → z8 sg.rsh vs' = some ls →
     Gn (s'.frz (Eh s' sg.rs ls ++ Nz s' sg.ps 0)) sg.rs ls = some q → bkD (s'.frz (Eh s' sg.rs ls ++ Nz s' sg.ps 0)) sg.ps 0 = some z → Ia (An q.2 ++ Dr sg.ps 0) = true →
     a'.defers = [] ∧ ∃ v, (results fn a'.tmps).run P w' = .ok v w' ∧ ∃ vs us', Ending.returned v = .returned (Zb vs) ∧ ShR sg.rsh vs us' ∧ Fy (B7 sg.ps us) w w' ∧
      HR w' (Sk w S (B7 sg.ps us) (B7 sg.rs us' ++ Kx sg.ps us)) sg.rs q.1 us' ∧ BkR w' (Sk w S (B7 sg.ps us) (B7 sg.rs us' ++ Kx sg.ps us)) sg.ps z us ∧
      (B7 sg.rs us' ++ Kx sg.ps us).Nodup ∧ ∀ b ∈ B7 sg.rs us', b < w'.heap.size ∧ (b ∈ B7 sg.ps us ∨ w.heap.size ≤ b) := by
    intro vs' ls q z h1 h2 h3 h4 h5
    obtain ⟨us1, r1, r2⟩ := Sq hR' h1
    obtain ⟨cs, hsh, hL'⟩ := Abh h2 r2
    obtain ⟨gF, hF, goF, hlf⟩ := Ca (ls := Eh s' sg.rs ls ++ Nz s' sg.ps 0) hR'
    have hXF := hX'.step goF
    have hLF := hL'.imp hlf
    obtain ⟨k1, k2, k3⟩ := Xq hF.res (x := q.1) (ow := q.2) h3 hLF
    obtain ⟨b1, b2, b3⟩ := m5 hF.res (g0 := ⟨fun _ => none, fun _ => undef, fun b => b < w.heap.size ∧ ¬ S b ∧ b ∉ B7 sg.ps us⟩) (x := x) (us := us) h4 hHR (fun j q1 => by
     have hj := Mi q1
     obtain ⟨_, p2, p3⟩ := hXF.pin j (show j < En sg.ps by omega) (Ii q1)
     rw [hg0]
     exact ⟨fun T bl q2 => (p2 T bl q2).2, fun e t xs q2 => (p3 e t xs q2).2⟩)
    have hnd := Pp h5
    have hgone : B7 sg.rs cs ++ Kx sg.ps us = Nv gF (q.2 ++ (Dr sg.ps 0).map some) := by rw [k2, b2, Agr]
    have hS2 : ∀ b, Bz (s'.frz (Eh s' sg.rs ls ++ Nz s' sg.ps 0)) gF b → b < w'.heap.size → Sk w S (B7 sg.ps us) (B7 sg.rs cs ++ Kx sg.ps us) b := by
     rintro b ⟨q1, q2⟩ _
     rw [hXF.av, hav] at q1
     refine ⟨?_, fun hq => ?_⟩
     ·by_cases c1 : S b
      ·exact .inl c1
      ·by_cases c2 : b ∈ B7 sg.ps us
       ·exact .inr (.inl c2)
       ·right; right
        rcases Nat.lt_or_ge b w.heap.size with c3 | c3
        ·exact absurd ⟨c3, c1, c2⟩ q1
        ·exact c3
     ·rw [hgone] at hq
      obtain ⟨id, p1, p2⟩ := H2.1 hq
      rw [Yi, Yj] at p1
      rcases List.mem_append.1 p1 with p1 | p1
      ·exact q2 id (k3 id p1) p2
      ·exact q2 id (b3 id p1) p2
    refine ⟨hR'.defers, _, r1, us1, cs, rfl, hsh, ⟨hX'.kp.os, hX'.kp.tape, hX'.kp.output, hX'.kp.size, fun k q1 q2 => hX'.kp.block k q1 q2⟩, Q4 (.inr hS2) k1, Nb (.inr hS2) b1, ?_, fun b hb => ?_⟩
    ·rw [hgone]
     exact Na hF.inj (by rw [Yi, Yj]; exact hnd)
    ·rw [k2] at hb
     obtain ⟨id, p1, p2⟩ := H2.1 hb
     obtain ⟨q1, q2, _⟩ := hF.lt id b p2
     exact ⟨q1, q2⟩
   have hend : ∀ (e : Ex), (∀ id, e ≠ .exit id) → (match He P s' fn.results.toList with
     | none => none
     | some vs => match z8 sg.rsh vs with
      | none => none
      | some ls =>
       let sF := s'.frz (Eh s' sg.rs ls ++ Nz s' sg.ps 0)
       match Gn sF sg.rs ls with
       | none => none
       | some q => match bkD sF sg.ps 0 with
        | none => none
        | some z => bif Ia (An q.2 ++ Dr sg.ps 0) then some (q.1, z) else none) = some r → bodyPost P fn (fun e w' => ∃ vs us', e = .returned (Zb vs) ∧ ShR sg.rsh vs us' ∧ Fy (B7 sg.ps us) w w' ∧
       HR w' (Sk w S (B7 sg.ps us) (B7 sg.rs us' ++ Kx sg.ps us)) sg.rs r.1 us' ∧ BkR w' (Sk w S (B7 sg.ps us) (B7 sg.rs us' ++ Kx sg.ps us)) sg.ps r.2 us ∧
       (B7 sg.rs us' ++ Kx sg.ps us).Nodup ∧ ∀ b ∈ B7 sg.rs us', b < w'.heap.size ∧ (b ∈ B7 sg.ps us ∨ w.heap.size ≤ b)) e.to a' w' := by
    intro e hne h
    split at h
    ·cases h
    ·rename_i vs' h1
     split at h
     ·cases h
     ·rename_i ls h2
      dsimp only at h
      split at h
      ·cases h
      ·rename_i q h3
       split at h
       ·cases h
       ·rename_i z h4
        obtain ⟨h5, h6⟩ := Gz h
        cases h6
        obtain ⟨f1, v, f2, f3⟩ := hfin h1 h2 h3 h4 h5
        cases e with
        | normal => exact ⟨f1, v, f2, f3⟩
        | ret => exact ⟨f1, v, f2, f3⟩
        | exit id => exact absurd rfl (hne id)
   cases e with
   | normal => exact hend .normal (fun id q => by cases q) hk
   | ret => exact hend .ret (fun id q => by cases q) hk
   | exit id => cases hk
  ·cases he
 exact ⟨⟨fn, hf, hname, hbody⟩, sound⟩
def Hj : Nat → Pat × (Nat → Pat) := fun _ => (⟨[], [], []⟩, fun _ => ⟨[], [], []⟩)
def Lk {R : Type} {pat : Nat → Pat × (Nat → Pat)} : Lt R pat := fun _ _ _ => none
def Ho {R : Type} {pat : Nat → Pat × (Nat → Pat)} (key : Nat) (F : (pat key).1.D → Kt R → Option R) (L : Lt R pat) : Lt R pat := fun j d k => if h : j = key then F (h ▸ d) k else L j d k
abbrev nI (n : Nat) : Int := (n : Int)
def Ij {α β γ : Type} (f : α → γ) (g : β → γ) : α ⊕ β → γ
 | .inl a => f a
 | .inr b => g b
theorem Aev {R : Type} {np n : Nat} {cfg : Cfg} {L : Lt R cfg.pat} {c : Code} {key : Nat} (hkey : Db c = key) (hm : P.follows .mixedOrders = true) (hs : Az P cfg.sigs) (hn : cfg.n = n) (hnp : cfg.np = np)
  (hL : ∀ d k (r : R), L key d k = some r → ∃ m, Sw np (cfg.pat key) (fun s nid k => ev P cfg L c s nid k) m d k = some r) (hL' : ∀ c' ∈ Aw c, Bg P R n np cfg.pat L c') : Bg P R n np cfg.pat L c := by
 subst hkey
 exact Ac8 hm hs hn hnp hL hL'
theorem Ar {α β γ δ : Type} (f : α → Option γ) (g : β → Option γ) (o : α ⊕ β) (h : γ → Option δ) : (Ij f g o).bind h = Ij (fun a => (f a).bind h) (fun b => (g b).bind h) o := by cases o <;> rfl
theorem Ba {α β : Type} (c : Prop) [Decidable c] (x y : Option α) (f : α → Option β) : (if c then x else y).bind f = if c then x.bind f else y.bind f := by split <;> rfl
theorem Ay {α β : Type} (c : Bool) (x y : Option α) (f : α → Option β) : (bif c then x else y).bind f = bif c then x.bind f else y.bind f := by cases c <;> rfl
end
end Go.Proofs.Ytkfoebbjncngjaa.R

