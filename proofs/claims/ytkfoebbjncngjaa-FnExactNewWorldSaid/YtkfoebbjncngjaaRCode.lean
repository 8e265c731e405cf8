/- The evaluator, and that a body does what it tells. No condition. -/
import Derived.Test.YtkfoebbjncngjaaRSort
namespace Go.Proofs.Ytkfoebbjncngjaa.R
open Go Go.RowKit
set_option linter.unusedVariables false
set_option linter.unusedSimpArgs false
inductive Ex where
 | normal
 | exit (id : Nat)
 | ret
def Ex.to : Ex → Exit
 | .normal => .normal
 | .exit id => .exit id
 | .ret => .ret
structure g7 where
 sigs : Tb
 np : Nat
 n : Nat
 pat : Nat → Pat × (Nat → Pat)
def chk {R : Type} : List Bool → Option R → Option R
 | [], k => k
 | c :: r, k => bif c then chk r k else none
def R2 {R : Type} (sg : Sig) (den : Hn sg.ps → Option (Hn sg.rs × L2 sg.ps)) (s : St) (nid : Nat) (vs : List Vl) (k : AV → St → Option R) : Option R :=
 match Ya sg.psh vs with
 | none => none
 | some ls =>
  let sF := s.frz (Dg s sg.ps ls)
  let sA := if Cy sg.rs && Ep sg.ps then s else sF
  match E9 sF sg.ps ls with
  | none => none
  | some q => bif Gt (Am q.2) then (bif Fj sA nid (Dm sg.rs) then (den q.1).bind fun r =>
   match l5 sg.rsh (V0 sg.rs r.1 nid) with
   | none => none
   | some vs' => k (Yo vs') ⟨sA.cell, D7 sg.rs r.1 nid (D2 sg.ps r.2 q.2 sA.res)⟩
   else none) else none
def St.lit (s : St) (x : Operand) (b : Bool) : St := match x with
 | .tmp t => s.setCell t (.vl (.lf (.c (.bool b))))
 | _ => s
def Abi {R : Type} (s : St) (c x y : Operand) (k : AV → St → Option R) : Option R := match s.conc c with
 | some (.bool t) => match Wd s x y with
  | some (p, q) => k (.vl (.lf (.c (.bool (bif t then p else q))))) s
  | none => bif t then k (s.op x) (s.lit c true) else k (s.op y) (s.lit c false)
 | _ => none
def b4 {R : Type} (P : Program) (T : Tb) (s : St) (nid : Nat) (o : Oper) (k : AV → St → Option R) : Option R := match Et o with
 | some (f, xs) => match Hp s xs with
  | some vs => match T.sd f with
   | some sd => R2 sd.sg sd.den s nid vs k
   | none => match T.inl f with
    | some fn => match Aam P T fn vs s nid with
     | some (cs, av, s') => chk cs (k av s')
     | none => none
    | none => match m9 T s f vs with
     | some (cs, av, s') => chk cs (k av s')
     | none => none
  | none => none
 | none => match Ng s o with
  | some (f, xs, ls) => match Hp s xs with
   | some vs => match T.sd f with
    | some sd => R2 sd.sg sd.den s nid (vs ++ Aak ls) k
    | none => none
   | none => none
  | none => match o.op with
   | .pick c x y => Abi s c x y k
   | _ => match Il P s nid o with
    | some (cs, av, s') => chk cs (k av s')
    | none => none
def Y5 {R : Type} (P : Program) (sigs : Tb) (s : St) (nid : Nat) (o : Oper) (k : AV → St → Option R) : Option R :=
 let sl := Bf o
 let ids := G0 s o
 bif Fj s nid Sx then (bif Gp o s ids then b4 P sigs (s.view sl ids) nid o fun av v =>
  bif Ua o || Nk (Eu av) (ids ++ Eo nid) then (bif Gp o v (ids ++ Eo nid) then k av v else none) else none
 else none) else none
def Wo {R : Type} (s : St) (ops : Array Oper) (o : Oper) (go : Bool → St → Option R) : Option R := match o.guard with
 | none => go true s
 | some (j, want) => match ops[j]? with
  | some oj => match oj.dst with
   | some d => match s.cell d with
    | .vl (.lf (.c (.bool b))) => bif b then go want (s.lit (.tmp d) true) else go (!want) (s.lit (.tmp d) false)
    | .tp [] => go false s
    | _ => none
   | none => none
  | none => none
def Jj {R : Type} (P : Program) (cfg : g7) (ops : Array Oper) : List Oper → Nat → St → (St → Option R) → Option R
 | [], _, s, k => k s
 | o :: r, nid, s, k => Wo s ops o fun run s => bif run then b4 P cfg.sigs s nid o (fun av s' => Jj P cfg ops r (nid + Sx) (s'.put cfg.n o.dst av) k)
  else Jj P cfg ops r (nid + Sx) (s.put cfg.n o.dst (.tp [])) k
def Mf {R : Type} (P : Program) (cfg : g7) (ops : Array Oper) : List Oper → Nat → St → List Ent → (St → Option R) → Option R
 | [], _, s, tr, k => bif f4 P ops 0 [] [] tr.reverse then k s else none
 | o :: r, nid, s, tr, k => Wo s ops o fun run s => bif run then Y5 P cfg.sigs s nid o (fun av v => Mf P cfg ops r (nid + Sx) ((Kf cfg.sigs s nid o av v).app P cfg.n s) (Kf cfg.sigs s nid o av v :: tr) k)
  else Mf P cfg ops r (nid + Sx) ((Nq nid o).app P cfg.n s) (Nq nid o :: tr) k
def Cq : Code → Nat
 | .region id _ _ => id + 1
 | .seq a b => if Cq a = 0 then Cq b else Cq a
 | .cond _ a b => if Cq a = 0 then Cq b else Cq a
 | .block _ a => Cq a
 | .loop a => Cq a
 | _ => 0
abbrev Kt (R : Type) := Ex → St → Nat → Option R
def Ex.no : Ex → Nat
 | .normal => 0
 | .ret => 1
 | .exit id => id + 2
abbrev Lt (R : Type) (pat : Nat → Pat × (Nat → Pat)) := (key : Nat) → (pat key).1.D → Kt R → Option R
def Aax {R : Type} (np : Nat) (px : Nat → Pat) (k : Kt R) : Kt R := fun e s nid => match (px e.no).mtch np s nid with
 | some d => k e ((px e.no).st d) (px e.no).nid
 | none => none
def Y6 {R : Type} (np : Nat) (p : Pat × (Nat → Pat)) (nx : p.1.D → Kt R → Option R) (k : Kt R) : Kt R := fun e s nid => match e with
 | .normal => match p.1.mtch np s nid with
  | some d => nx d k
  | none => none
 | .exit id => Aax np p.2 k (.exit id) s nid
 | .ret => Aax np p.2 k .ret s nid
def Ql {R : Type} (np : Nat) (p : Pat × (Nat → Pat)) (bd : St → Nat → Kt R → Option R) : Nat → p.1.D → Kt R → Option R
 | 0, _, _ => none
 | m + 1, d, k => bd (p.1.st d) p.1.nid (Y6 np p (Ql np p bd m) k)
def Th {R : Type} (P : Program) (cfg : g7) (q : Vd) (nid : Nat) (s : St) (k : St → Option R) : Option R := match Abh P cfg.sigs cfg.n s nid q with
 | some (cs, s') => chk cs (k s')
 | none => none
def ev {R : Type} (P : Program) (cfg : g7) (L : Lt R cfg.pat) : Code → St → Nat → Kt R → Option R
 | .skip, s, nid, k => k .normal s nid
 | .region _ ops draw, s, nid, k => match Gq ops.toList with
  | some q => bif draw then none else Jj P cfg ops q.pre nid s fun s' => Th P cfg q nid s' (fun s' => k .normal s' (nid + Sx * ops.size))
  | none => bif draw then Mf P cfg ops ops.toList nid s [] (fun s' => k .normal s' (nid + Sx * ops.size)) else Jj P cfg ops ops.toList nid s (fun s' => k .normal s' (nid + Sx * ops.size))
 | .seq a b, s, nid, k => ev P cfg L a s nid fun e s' nid' => match e with
  | .normal => ev P cfg L b s' nid' k
  | .exit id => k (.exit id) s' nid'
  | .ret => k .ret s' nid'
 | .cond c a b, s, nid, k => match s.conc c with
  | some (.bool t) => bif t then ev P cfg L a (s.lit c true) nid k else ev P cfg L b (s.lit c false) nid k
  | _ => none
 | .block id c, s, nid, k => ev P cfg L c s nid fun e s' nid' => match e with
  | .normal => k .normal s' nid'
  | .exit id' => if id' = id then k .normal s' nid' else k (.exit id') s' nid'
  | .ret => k .ret s' nid'
 | .loop c, s, nid, k => match (cfg.pat (Cq c)).1.mtch cfg.np s nid with
  | some d => L (Cq c) d k
  | none => none
 | .exit id, s, nid, k => k (.exit id) s nid
 | .ret, s, nid, k => k .ret s nid
 | _, _, _, _ => none
def Bb : Code → List Code
 | .loop c => [c]
 | .seq a b => Bb a ++ Bb b
 | .cond _ a b => Bb a ++ Bb b
 | .block _ a => Bb a
 | _ => []
section
variable {R : Type} {P : Program} {n B : Nat} {Iq : List Nat} {s : St} {g : Gh} {a : Act} {w : World} {r : R}
theorem Kh : ∀ {cs : List Bool} {k : Option R}, chk cs k = some r → F6 cs = true ∧ k = some r
 | [], k, h => ⟨rfl, h⟩
 | c :: cs, k, h => by
  simp only [chk] at h
  cases c with
  | false => cases h
  | true =>
   obtain ⟨h1, h2⟩ := Kh h
   exact ⟨by simp [F6, h1], h2⟩
theorem Nw {sg : Sig} {den : Hn sg.ps → Option (Hn sg.rs × L2 sg.ps)} {nid : Nat} {vs : List Vl} {k : AV → St → Option R} (h : R2 sg den s nid vs k = some r) :
  ∃ av s', L4 sg den s nid vs = some (av, s') ∧ k av s' = some r := by
 unfold R2 at h
 unfold L4
 split at h
 ·cases h
 ·rename_i ls e1
  dsimp only at h
  split at h
  ·cases h
  ·rename_i q e2
   cases h1 : Gt (Am q.2) with
   | false => rw [h1] at h; cases h
   | true =>
    rw [h1] at h
    simp only [cond_true] at h
    cases h2 : Fj (if (Cy sg.rs && Ep sg.ps) = true then s else s.frz (Dg s sg.ps ls)) nid (Dm sg.rs) with
    | false => rw [h2] at h; cases h
    | true =>
     rw [h2] at h
     simp only [cond_true] at h
     obtain ⟨d, e3, h⟩ := Option.bind_eq_some_iff.1 h
     split at h
     ·cases h
     ·rename_i vs' e4
      refine ⟨_, _, ?_, h⟩
      rw [e1]
      simp only [Option.bind_some]
      rw [e2]
      simp only [Option.bind_some, h1, h2, if_true, e3, e4]
theorem Io {x : Operand} {b : Bool} (h : s.conc x = some (.bool b)) : s.lit x b = s := by
 cases x with
 | tmp t =>
  refine St.ext' (fun i => ?_) (fun _ => rfl)
  show Hi s.cell t _ i = s.cell i
  by_cases q : i = t
  ·subst q
   rw [Ai]
   unfold St.conc at h
   split at h
   ·rename_i hv
    cases h
    exact hv.symm
   ·cases h
  ·rw [Ad _ _ q]
 | const v => rfl
 | global _ => rfl
 | func _ => rfl
theorem Mg {T : Tb} {nid : Nat} {o : Oper} {k : AV → St → Option R} (h : b4 P T s nid o k = some r) : ∃ av s', Gy P T s nid o = some (av, s') ∧ k av s' = some r := by
 unfold b4 at h
 unfold Gy
 split at h
 ·rename_i f xs hc
  split at h
  ·rename_i vs hvs
   split at h
   ·rename_i sd hsd
    obtain ⟨av, s', e1, e2⟩ := Nw h
    exact ⟨av, s', by simp only [hc, hvs, hsd, e1], e2⟩
   ·rename_i hsd
    split at h
    ·rename_i fn hfn
     split at h
     ·rename_i cs av s' hi
      obtain ⟨h1, h2⟩ := Kh h
      exact ⟨av, s', by simp only [hc, hvs, hsd, hfn]; rw [hi]; simp [Eh, h1], h2⟩
     ·cases h
    ·rename_i hfn
     split at h
     ·rename_i cs av s' hn
      obtain ⟨h1, h2⟩ := Kh h
      exact ⟨av, s', by simp only [hc, hvs, hsd, hfn]; rw [hn]; simp [Eh, h1], h2⟩
     ·cases h
  ·cases h
 ·rename_i hc
  split at h
  ·rename_i f xs ls hcl
   split at h
   ·rename_i vs hvs
    split at h
    ·rename_i sd hsd
     obtain ⟨av, s', e1, e2⟩ := Nw h
     exact ⟨av, s', by simp only [hc, hcl, hvs, hsd, e1], e2⟩
    ·cases h
   ·cases h
  ·rename_i hcl
   split at h
   ·rename_i c x y hop
    have hst : Il P s nid o = j5 s (Kb s c x y) := by unfold Il; rw [hop]
    unfold Abi at h
    rw [hst]
    split at h
    ·rename_i t ht
     split at h
     ·rename_i p q hb
      refine ⟨_, _, ?_, h⟩
      have : Kb s c x y = some (.vl (.lf (.c (.bool (bif t then p else q))))) := by unfold Kb; rw [ht]; simp only [hb]
      rw [this]
      simp [hc, hcl, j5, Eh, F6]
     ·rename_i hb
      have : Kb s c x y = some (bif t then s.op x else s.op y) := by unfold Kb; rw [ht]; simp only [hb]
      cases t with
      | true =>
       rw [Io ht] at h
       exact ⟨s.op x, s, by rw [this]; simp [hc, hcl, j5, Eh, F6], h⟩
      | false =>
       rw [Io ht] at h
       exact ⟨s.op y, s, by rw [this]; simp [hc, hcl, j5, Eh, F6], h⟩
    ·cases h
   ·split at h
    ·rename_i cs av s' hst
     obtain ⟨h1, h2⟩ := Kh h
     exact ⟨av, s', by simp only [hc, hcl]; rw [hst]; simp [Eh, h1], h2⟩
    ·cases h
theorem Fp {c : Bool} {x : Option R} (h : (bif c then x else none) = some r) : c = true ∧ x = some r := by
 cases c with
 | false => cases h
 | true => exact ⟨rfl, h⟩
theorem Xy {sigs : Tb} {nid : Nat} {o : Oper} {k : AV → St → Option R} (h : Y5 P sigs s nid o k = some r) : ∃ av v, Lr P sigs s nid o = some (av, v) ∧ k av v = some r := by
 unfold Y5 at h
 dsimp only at h
 obtain ⟨h1, h⟩ := Fp h
 obtain ⟨h2, h⟩ := Fp h
 obtain ⟨av, v, e1, h⟩ := Mg h
 obtain ⟨h3, h⟩ := Fp h
 obtain ⟨h4, h⟩ := Fp h
 refine ⟨av, v, ?_, h⟩
 unfold Lr
 dsimp only
 rw [if_pos h1, if_pos h2, e1]
 simp only [Option.bind_some, h3, h4, if_true]
theorem Ki {ops : Array Oper} {o : Oper} {go : Bool → St → Option R} (h : Wo s ops o go = some r) : ∃ run, Ea s ops o = some run ∧ go run s = some r := by
 unfold Wo at h
 unfold Ea
 split at h
 ·rename_i hg
  exact ⟨true, by rw [hg], h⟩
 ·rename_i j want hg
  rw [hg]
  simp only
  unfold Yv
  split at h
  ·rename_i oj hoj
   rw [hoj]
   simp only
   split at h
   ·rename_i d hd
    rw [hd]
    simp only
    split at h
    ·rename_i b hb
     rw [hb]
     refine ⟨bif b then want else !want, rfl, ?_⟩
     have hc : s.conc (.tmp d) = some (.bool b) := by unfold St.conc; show (match s.cell d with | .vl (.lf (.c v)) => some v | _ => none) = _; rw [hb]
     cases b with
     | true => rw [Io hc] at h; exact h
     | false => rw [Io hc] at h; exact h
    ·rename_i hb
     rw [hb]
     exact ⟨false, rfl, h⟩
    ·cases h
   ·cases h
  ·cases h
structure Gx (np B : Nat) (Iq : List Nat) (s0 : St) (g0 : Gh) (w0 : World) (s : St) (g : Gh) (w : World) : Prop where
 kp : Kp B Iq w0 w
 av : g.av = g0.av
 pin : ∀ id, id < np → (s0.res id).live = true → s.res id ≠ .unborn ∧ (∀ T ls, s.res id = .box T ls → (∃ T' ls', s0.res id = .box T' ls') ∧ g.blk id = g0.blk id) ∧
  ∀ e, ∀ t : Ty, ∀ xs : List t.D, s.res id = .row e t xs → (∃ e', ∃ xs' : List t.D, s0.res id = .row e' t xs') ∧ g.blk id = g0.blk id ∧ g.hdr id = g0.hdr id
section
variable {np : Nat} {s0 : St} {g0 : Gh} {w0 : World}
theorem Gx.step {s' : St} {g' : Gh} {w' : World} (h : Gx np B Iq s0 g0 w0 s g w) (k : Go B Iq s g w s' g' w') : Gx np B Iq s0 g0 w0 s' g' w' := by
 refine ⟨h.kp.trans k.kp, k.av.trans h.av, fun id hid hl => ?_⟩
 obtain ⟨h1, h2, h3⟩ := h.pin id hid hl
 have r := k.ref id
 unfold Ae at r
 rcases r with r | r
 ·exact ⟨by rw [r]; simp, fun T ls q => (by rw [r] at q; cases q), fun e t xs q => by rw [r] at q; cases q⟩
 ·cases hs : s.res id with
  | unborn => exact absurd hs h1
  | dead => rw [hs] at r; exact r.elim
  | box T ls =>
   rw [hs] at r
   obtain ⟨T', ls', e1, e2⟩ := r
   refine ⟨by rw [e1]; simp, fun _ _ _ => ?_, fun e t xs q => by rw [e1] at q; cases q⟩
   obtain ⟨q1, q2⟩ := h2 T ls hs
   exact ⟨q1, e2.trans q2⟩
  | row e t xs =>
   rw [hs] at r
   rcases r with ⟨e', xs', e1, _, e2, e3⟩ | ⟨t', xs', e1, _⟩
   ·refine ⟨by rw [e1]; simp, fun T ls q => (by rw [e1] at q; cases q), fun e2' t2 xs2 q => ?_⟩
    rw [e1] at q
    cases q
    obtain ⟨q1, q2, q3⟩ := h3 e t xs hs
    exact ⟨q1, e3.trans q2, e2.trans q3⟩
   ·exact ⟨by rw [e1]; simp, fun T ls q => (by rw [e1] at q; cases q), fun e t xs q => by rw [e1] at q; cases q⟩
  | frozen t xs =>
   rw [hs] at r
   obtain ⟨t', xs', e1, _⟩ := r
   exact ⟨by rw [e1]; simp, fun T ls q => (by rw [e1] at q; cases q), fun e t xs q => by rw [e1] at q; cases q⟩
  | last e t xs c j =>
   rw [hs] at r
   rcases r with ⟨_, _, _, _, _, e1, _⟩ | ⟨t', xs', e1, _⟩
   ·exact ⟨by rw [e1]; simp, fun T ls q => (by rw [e1] at q; cases q), fun e t xs q => by rw [e1] at q; cases q⟩
   ·exact ⟨by rw [e1]; simp, fun T ls q => (by rw [e1] at q; cases q), fun e t xs q => by rw [e1] at q; cases q⟩
  | map t xs =>
   rw [hs] at r
   obtain ⟨_, _, e1, _⟩ := r
   exact ⟨by rw [e1]; simp, fun T ls q => (by rw [e1] at q; cases q), fun e t xs q => by rw [e1] at q; cases q⟩
  | iter t xs seen cur =>
   rw [hs] at r
   obtain ⟨_, _, _, _, e1, _⟩ := r
   exact ⟨by rw [e1]; simp, fun T ls q => (by rw [e1] at q; cases q), fun e t xs q => by rw [e1] at q; cases q⟩
theorem Gx.canon {s' : St} {g' : Gh} (h : Gx np B Iq s0 g0 w0 s g w) (ha : g'.av = g.av) (hp : ∀ id, id < np → (s'.res id = .unborn → s.res id = .unborn) ∧ (∀ T ls, s'.res id = .box T ls → (∃ T' ls', s.res id = .box T' ls') ∧ g'.blk id = g.blk id) ∧ (∀ e, ∀ t : Ty, ∀ xs : List t.D, s'.res id = .row e t xs → (∃ e', ∃ xs' : List t.D, s.res id = .row e' t xs') ∧ g'.blk id = g.blk id ∧ g'.hdr id = g.hdr id)) : Gx np B Iq s0 g0 w0 s' g' w := by
 refine ⟨h.kp, ha.trans h.av, fun id hid hl => ?_⟩
 obtain ⟨h1, h2, h3⟩ := h.pin id hid hl
 obtain ⟨k1, k2, k3⟩ := hp id hid
 refine ⟨fun q => h1 (k1 q), fun T ls q => ?_, fun e t xs q => ?_⟩
 ·obtain ⟨⟨T', ls', e1⟩, e2⟩ := k2 T ls q
  obtain ⟨e3, e4⟩ := h2 T' ls' e1
  exact ⟨e3, e2.trans e4⟩
 ·obtain ⟨⟨e', xs', e1⟩, e2, e2'⟩ := k3 e t xs q
  obtain ⟨e3, e4, e5⟩ := h3 e' t xs' e1
  exact ⟨e3, e2.trans e4, e2'.trans e5⟩
theorem Wp {nid : Nat} {p : Pat} {d : p.D} (h : Au n B Iq s g a w) (hx : Gx np B Iq s0 g0 w0 s g w) (e : p.mtch np s nid = some d) : ∃ g', Au n B Iq (p.st d) g' a w ∧ Gx np B Iq s0 g0 w0 (p.st d) g' w := by
 obtain ⟨s1, g1, g', k1, k2, k3, k4⟩ := Aaw h e
 exact ⟨g', k2, (hx.step k1).canon k3 k4⟩
theorem b5 {np' : Nat} (hnp : np' = np) {px : Nat → Pat} {k : Kt R} {Q : Exit → Act → World → Prop} (hk : ∀ e s' nid' g' a' w', k e s' nid' = some r → Au n B Iq s' g' a' w' → Gx np B Iq s0 g0 w0 s' g' w' → Q e.to a' w') {e : Ex} {nid : Nat}
  (he : Aax np' px k e s nid = some r) (h : Au n B Iq s g a w) (hx : Gx np B Iq s0 g0 w0 s g w) : Q e.to a w := by
 subst hnp
 unfold Aax at he
 split at he
 ·rename_i d hd
  obtain ⟨g', k1, k2⟩ := Wp h hx hd
  exact hk e _ _ g' a w he k1 k2
 ·cases he
theorem Pj {cfg : g7} (hs : A2 P cfg.sigs) (hn : cfg.n = n) {ops : Array Oper} {k : St → Option R} {Q : Exit → Act → World → Prop}
  (hk : ∀ s' g' a' w', k s' = some r → Au n B Iq s' g' a' w' → Gx np B Iq s0 g0 w0 s' g' w' → Q .normal a' w') :
  ∀ {l : List Oper} {nid : Nat} {s : St} {g : Gh} {a : Act} {w : World}, Jj P cfg ops l nid s k = some r → Au n B Iq s g a w → Gx np B Iq s0 g0 w0 s g w → wpList P ops Q l a w
 | [], nid, s, g, a, w, e, h, hx => hk s g a w e h hx
 | o :: l, nid, s, g, a, w, e, h, hx => by
  simp only [Jj] at e
  obtain ⟨run, e1, e⟩ := Ki e
  unfold wpList
  rw [Fl h e1]
  cases run with
  | true =>
   simp only [cond_true] at e
   obtain ⟨av, s', e2, e⟩ := Mg e
   rw [if_pos rfl]
   left
   refine Kd hs h e2 _ Q fun v g' w' k1 k2 k3 => ?_
   obtain ⟨r1, r2⟩ := Fw k2 o.dst k3
   rw [hn] at e
   exact Pj hs hn hk e r1 ((hx.step k1).step r2)
  | false =>
   simp only [cond_false] at e
   rw [if_neg (by simp)]
   obtain ⟨r1, r2⟩ := Fw (av := .tp []) (v := undef) h o.dst ⟨#[], rfl, rfl, fun j v hv => by simp at hv⟩
   rw [hn] at e
   exact Pj hs hn hk e r1 (hx.step r2)
theorem Mh {cfg : g7} (hs : A2 P cfg.sigs) (hn : cfg.n = n) {ops : Array Oper} {k : St → Option R} {Q : Exit → Act → World → Prop} {rest : List Oper}
  (hk : ∀ s' g' a' w', k s' = some r → Au n B Iq s' g' a' w' → Gx np B Iq s0 g0 w0 s' g' w' → wpList P ops Q rest a' w') :
  ∀ {l : List Oper} {nid : Nat} {s : St} {g : Gh} {a : Act} {w : World}, Jj P cfg ops l nid s k = some r → Au n B Iq s g a w → Gx np B Iq s0 g0 w0 s g w → wpList P ops Q (l ++ rest) a w
 | [], nid, s, g, a, w, e, h, hx => hk s g a w e h hx
 | o :: l, nid, s, g, a, w, e, h, hx => by
  simp only [Jj] at e
  obtain ⟨run, e1, e⟩ := Ki e
  show wpList P ops Q (o :: (l ++ rest)) a w
  unfold wpList
  rw [Fl h e1]
  cases run with
  | true =>
   simp only [cond_true] at e
   obtain ⟨av, s', e2, e⟩ := Mg e
   rw [if_pos rfl]
   left
   refine Kd hs h e2 _ Q fun v g' w' k1 k2 k3 => ?_
   obtain ⟨r1, r2⟩ := Fw k2 o.dst k3
   rw [hn] at e
   exact Mh hs hn hk e r1 ((hx.step k1).step r2)
  | false =>
   simp only [cond_false] at e
   rw [if_neg (by simp)]
   obtain ⟨r1, r2⟩ := Fw (av := .tp []) (v := undef) h o.dst ⟨#[], rfl, rfl, fun j v hv => by simp at hv⟩
   rw [hn] at e
   exact Mh hs hn hk e r1 (hx.step r2)
theorem Ti {l : List Oper} {q : Vd} (h : Gq l = some q) : l = q.pre ++ [q.o2, q.o3, q.o4] := by
 unfold Gq at h
 split at h
 ·split at h <;> cases h
  rfl
 ·cases h
theorem Ug {l : List Oper} {q : Vd} (h : Gq l = some q) : R1 q.o2 q.o3 q.o4 = some (q.V, q.z, q.d2, q.d3, q.fs) := by
 unfold Gq at h
 split at h
 ·split at h <;> cases h
  rename_i h
  exact h
 ·cases h
theorem Y7 {av : AV} {fc : FuncId} {b : Nat} (h : u4 av = some (fc, b)) : av = .fn fc [.ptr b 0] := by
 unfold u4 at h
 split at h <;> cases h
 rfl
theorem Uh {BT : TypeId} {v : Res} {r : Nat} (h : Tg BT v = some r) : v = .box BT [.row r] := by
 unfold Tg at h
 split at h
 ·split at h <;> cases h
  rename_i hT
  rw [hT]
 ·cases h
theorem Wq {l : Option Lf} {r : Nat} (h : Wm l = some r) : l = some (.row r) := by
 unfold Wm at h
 split at h <;> cases h
 rfl
theorem Aay {cfg : g7} (hs : A2 P cfg.sigs) (hn : cfg.n = n) {ops : Array Oper} {q : Vd} (hq : Gq ops.toList = some q) {nid : Nat} {k : St → Option R} {Q : Exit → Act → World → Prop}
  (hk : ∀ s' g' a' w', k s' = some r → Au n B Iq s' g' a' w' → Gx np B Iq s0 g0 w0 s' g' w' → Q .normal a' w') (e : Th P cfg q nid s k = some r) (h : Au n B Iq s g a w) (hx : Gx np B Iq s0 g0 w0 s g w) : wpList P ops Q [q.o2, q.o3, q.o4] a w := by
 obtain ⟨t1, t2, t3, t4, t5, t6, t7, t8⟩ := Wn (Ug hq)
 unfold Th at e
 split at e
 ·rename_i cs s' es
  obtain ⟨hcs, ek⟩ := Kh e
  clear e
  unfold Abh at es
  split at es
  ·rename_i fs fc BT U ety hsrt
   split at es
   ·rename_i r0 hr0
    have hr0 := Wq hr0
    split at es
    ·rename_i av s3 hst
     split at es
     ·rename_i fc' b hav
      have hav := Y7 hav
      subst hav
      split at es
      ·rename_i r' xs hbx hrw
       split at es
       rotate_left
       ·cases es
       rename_i c0
       split at es
       ·rename_i c1
        split at es
        ·rename_i c2
         split at es
         ·rename_i c3
          split at es
          ·rename_i c4
           split at es
           ·rename_i c5
            split at es
            ·rename_i c6
             cases es
             subst c1 c2 c3 c4
             rw [hn] at c5 c6 hst ek
             have hbx := Uh hbx
             have hrw := Y3 hrw
             obtain ⟨hcal, hok⟩ := hs.srt _ _ _ _ _ hsrt
             have hnd : Su xs = true ∧ xs.length ≤ 1000 := by simpa [F6] using hcs
             obtain ⟨hz, _⟩ := A7 h hr0
             unfold wpList
             rw [Fl h (r := true) (by unfold Ea; rw [t3]), if_pos rfl]
             left
             have hrun : (execOp a.eval q.o2).run P w = .ok (.value (.iface q.V (a.eval q.z))) w := by
              unfold Uv at c0
              split at c0
              ·rename_i hU
               simp [execOp, t1, Instr.makeInterface, run_underlying hU, Result.andThen]
              ·cases c0
             unfold Oper.wp
             rw [hrun, Oper.upon_value]
             obtain ⟨a1, a2⟩ := Fw (av := .dead) (v := .iface q.V (a.eval q.z)) h q.o2.dst trivial
             unfold wpList
             rw [Fl a1 (r := true) (by unfold Ea; rw [t5]), if_pos rfl]
             left
             refine Kd hs a1 hst _ Q fun v g3 w3 k1 k2 k3 => ?_
             obtain ⟨b1, b2⟩ := Fw k2 q.o3.dst k3
             unfold wpList
             rw [Fl b1 (r := true) (by unfold Ea; rw [t7]), if_pos rfl]
             left
             obtain ⟨caps, hv, hL⟩ := k3
             obtain ⟨p0, hcaps⟩ : ∃ p0, caps = #[p0] := by
              have := hL.length
              match caps, this with
              | ⟨[x]⟩, _ => exact ⟨x, rfl⟩
             subst hcaps
             have hp := hL.1.1
             simp only [Ba, hbx] at hp
             obtain ⟨bb, hbb, hp⟩ := hp
             have hp : p0 = .pointer (some ⟨bb, 0, none⟩) := hp
             subst hp
             have hbx2 : (s3.put n q.o3.dst (.fn fc' [.ptr b 0])).res b = .box BT [.row r'] := by rw [Rv]; exact hbx
             have hrw2 : (s3.put n q.o3.dst (.fn fc' [.ptr b 0])).res r' = .row ety prT xs := by rw [Rv]; exact hrw
             have hcall := g6 b1 hok hbb hbx2 hrw2 hnd.1 hnd.2
             have hhd : a.eval q.z = g3.hdr r' := by
              have e1 : Ba s3 g3 w3 (.row r') (a.eval q.z) := by
               have := Ba.step (a2.trans k1).S (a2.trans k1).ref hz
               exact this
              simp only [Ba, hrw] at e1
              exact e1
             have hsz : a.tmps.size = n := h.size
             have hd2 : ((a.put q.o2.dst (.iface q.V (a.eval q.z))).put q.o3.dst v).eval (.tmp q.d2) = .iface q.V (a.eval q.z) := by
              show ((a.put q.o2.dst (.iface q.V (a.eval q.z))).put q.o3.dst v).tmps.getD q.d2 undef = _
              rw [t2, t4, Y4 t8, Z9 (by rw [hsz]; exact c5)]
             have hd3 : ((a.put q.o2.dst (.iface q.V (a.eval q.z))).put q.o3.dst v).eval (.tmp q.d3) = v := by
              show ((a.put q.o2.dst (.iface q.V (a.eval q.z))).put q.o3.dst v).tmps.getD q.d3 undef = _
              rw [t4, Z9 (by rw [k2.size]; exact c6)]
             have hco : K9 P q.fs (([.tmp q.d2, .tmp q.d3] : List Operand).map ((a.put q.o2.dst (.iface q.V (a.eval q.z))).put q.o3.dst v).eval).toArray n B Iq (s3.put n q.o3.dst (.fn fc' [.ptr b 0])) g3 ((a.put q.o2.dst (.iface q.V (a.eval q.z))).put q.o3.dst v) w3 (.tp [])
              ((s3.put n q.o3.dst (.fn fc' [.ptr b 0])).setRes r' (.row ety prT (Nh xs))) := by
              have hd2' := hd2.trans (congrArg (Value.iface q.V) hhd)
              have hd3' := hd3.trans hv
              simp only [List.map_cons, List.map_nil, hd2', hd3']
              exact hcall
             refine Er.call t6 hcal hco _ Q fun v4 g4 w4 j1 j2 j3 => ?_
             obtain ⟨d1, d2⟩ := Fw j2 q.o4.dst j3
             unfold wpList
             exact hk _ _ _ _ ek d1 (((((hx.step a2).step k1).step b2).step j1).step d2)
            ·cases es
           ·cases es
          ·cases es
         ·cases es
        ·cases es
       ·cases es
      ·cases es
     ·cases es
    ·cases es
   ·cases es
  ·cases es
 ·cases e
theorem Kj {cfg : g7} {ops : Array Oper} {k : St → Option R} : ∀ {l : List Oper} {nid : Nat} {s : St} {acc : List Ent}, Mf P cfg ops l nid s acc k = some r →
  ∃ tr, tr.map (·.o) = l ∧ Mc P cfg.sigs ops cfg.n tr s ∧ f4 P ops 0 [] [] (acc.reverse ++ tr) = true ∧ ∀ i, k (Jg P cfg.n (fun _ => true) i tr s) = some r
 | [], nid, s, acc, e => by
  simp only [Mf] at e
  obtain ⟨h1, h2⟩ := Fp e
  exact ⟨[], rfl, trivial, by simpa using h1, fun i => h2⟩
 | o :: l, nid, s, acc, e => by
  simp only [Mf] at e
  obtain ⟨run, e1, e⟩ := Ki e
  cases run with
  | true =>
   simp only [cond_true] at e
   obtain ⟨av, v, e2, e⟩ := Xy e
   obtain ⟨tr, h1, h2, h3, h4⟩ := Kj e
   refine ⟨Kf cfg.sigs s nid o av v :: tr, by simp [h1, Kf], ⟨.inl ⟨e1, av, v, e2, rfl⟩, h2⟩, by simpa using h3, fun i => ?_⟩
   simp only [Jg, if_true]
   exact h4 (i + 1)
  | false =>
   simp only [cond_false] at e
   obtain ⟨tr, h1, h2, h3, h4⟩ := Kj e
   refine ⟨Nq nid o :: tr, by simp [h1, Nq], ⟨.inr ⟨e1, rfl⟩, h2⟩, by simpa using h3, fun i => ?_⟩
   simp only [Jg, if_true]
   exact h4 (i + 1)
theorem u5 (listed : Array Bool) : ∀ k, j6 listed k ≤ k
 | 0 => Nat.le_refl _
 | k + 1 => by
  simp only [j6]
  have := u5 listed k
  split <;> omega
theorem Xz {D : Nat → Bool} : ∀ {tr : List Ent} {i : Nat} {s : St}, (∀ j, D j = false) → Jg P n D i tr s = s
 | [], _, _, _ => rfl
 | e :: r, i, s, h => by
  simp only [Jg, h, Bool.false_eq_true, if_false]
  exact Xz h
theorem u6 (h : Au n B Iq s g a w) : Au n B Iq s g a { w with drawn := w.drawn + 1 } ∧ Go B Iq s g w s g { w with drawn := w.drawn + 1 } := by
 have hS : ∀ b, Bl s g b → b < w.heap.size → Bl s g b ∧ ({ w with drawn := w.drawn + 1 } : World).heap[b]? = w.heap[b]? := fun b hb _ => ⟨hb, rfl⟩
 have hI : ∀ id, Ae s g s g id := fun _ => Ae.same rfl rfl rfl
 exact ⟨h.step h.size h.defers (Nat.le_refl _) hS hI (fun _ => .inl ⟨rfl, rfl⟩) (fun _ => .inl ⟨rfl, rfl, rfl, fun _ _ => rfl⟩) h.inj h.lt rfl, ⟨⟨rfl, rfl, rfl, Nat.le_refl _, fun _ _ _ => rfl⟩, hS, hI, rfl⟩⟩
theorem g8 {cfg : g7} (hm : P.follows .mixedOrders = true) (hs : A2 P cfg.sigs) (hn : cfg.n = n) {id : Nat} {ops : Array Oper} {draw : Bool} {nid : Nat} {k : St → Option R} {Q : Exit → Act → World → Prop}
  (hk : ∀ s' g' a' w', k s' = some r → Au n B Iq s' g' a' w' → Gx np B Iq s0 g0 w0 s' g' w' → Q .normal a' w') (h : Au n B Iq s g a w) (hx : Gx np B Iq s0 g0 w0 s g w)
  (e : (bif draw then Mf P cfg ops ops.toList nid s [] k else Jj P cfg ops ops.toList nid s k) = some r) : (Code.region id ops draw).wp P Q a w := by
 cases draw with
 | false =>
  simp only [cond_false] at e
  exact wp_region_list (Pj hs hn hk e h hx)
 | true =>
  simp only [cond_true] at e
  obtain ⟨tr, h1, h2, h3, h4⟩ := Kj e
  rw [hn] at h2 h4
  obtain ⟨d1, d2⟩ := u6 h
  refine wp_region_any hm ?_
  have hD : ∀ j, (Array.replicate ops.size false).getD j false = false := fun j => by
   simp [Array.getD_eq_getD_getElem?, Array.getElem?_replicate]
   split <;> rfl
  have hmix : Jg P n (fun i => (Array.replicate ops.size false).getD i false) 0 tr s = s := Xz hD
  refine Aby hs h1 h2 (by simpa using h3) (g0 := g) (w0 := { w with drawn := w.drawn + 1 }) (fun a' g' w' q1 q2 => hk _ g' a' w' (h4 0) q2 ((hx.step d2).step q1)) ops.size _ a g _ (by simp) (u5 _ _) (fun j f q1 q2 => ?_) ?_ ?_
  ·have q2' : (Array.replicate ops.size false).getD j false = true := q2
   rw [hD] at q2'
   cases q2'
  ·rw [hmix]; exact Go.refl _ _ _ _ _
  ·rw [hmix]; exact d1
theorem Ve {p : Nat → Prop} (h : ∃ m, p m) : ∃ m, p m ∧ ∀ m', p m' → m ≤ m' := by
 obtain ⟨m, hm⟩ := h
 induction m using Nat.strongRecOn with
 | _ m ih =>
  by_cases q : ∃ j, j < m ∧ p j
  ·obtain ⟨j, q1, q2⟩ := q
   exact ih j q1 q2
  ·refine ⟨m, hm, fun j hj => ?_⟩
   rcases Nat.lt_or_ge j m with q2 | q2
   ·exact absurd ⟨j, q2, hj⟩ q
   ·exact q2
theorem Aaz {np' : Nat} {p : Pat × (Nat → Pat)} {c : Code} {bd : St → Nat → Kt R → Option R} {Q : Exit → Act → World → Prop} {k : Kt R} (hnp : np' = np)
  (hbd : ∀ {s : St} {g : Gh} {a : Act} {w : World} {nid : Nat} {k : Kt R} {Q : Exit → Act → World → Prop}, (∀ e s' nid' g' a' w', k e s' nid' = some r → Au n B Iq s' g' a' w' → Gx np B Iq s0 g0 w0 s' g' w' → Q e.to a' w') →
   bd s nid k = some r → Au n B Iq s g a w → Gx np B Iq s0 g0 w0 s g w → c.wp P Q a w)
  (hk : ∀ e s' nid' g' a' w', k e s' nid' = some r → Au n B Iq s' g' a' w' → Gx np B Iq s0 g0 w0 s' g' w' → Q e.to a' w') {m : Nat} {d : p.1.D}
  (e : Ql np' p bd m d k = some r) (h : Au n B Iq (p.1.st d) g a w) (hx : Gx np B Iq s0 g0 w0 (p.1.st d) g w) : (Code.loop c).wp P Q a w := by
 let J : Nat → Act → World → Prop := fun m a w => ∃ d g, Ql np' p bd m d k = some r ∧ Au n B Iq (p.1.st d) g a w ∧ Gx np B Iq s0 g0 w0 (p.1.st d) g w
 classical
 refine wp_loop (fun a w => ∃ m, J m a w) (fun a w => if hj : ∃ m, J m a w then Classical.choose (Ve hj) else 0) ⟨m, d, g, e, h, hx⟩ fun a w hj => ?_
 have hmu : (if hj : ∃ m, J m a w then Classical.choose (Ve hj) else 0) = Classical.choose (Ve hj) := dif_pos hj
 have hspec := (Classical.choose_spec (Ve hj)).1
 generalize hm : Classical.choose (Ve hj) = m at hspec
 obtain ⟨d, g, e, h, hx⟩ := hspec
 cases m with
 | zero => simp [Ql] at e
 | succ m =>
  simp only [Ql] at e
  refine hbd (fun e s' nid' g' a' w' q h' hx' => ?_) e h hx
  unfold Y6 at q
  cases e with
  | normal =>
   simp only at q
   split at q
   ·rename_i d' hd
    subst hnp
    obtain ⟨g2, k1, k2⟩ := Wp h' hx' hd
    have hJ : J m a' w' := ⟨d', g2, q, k1, k2⟩
    refine ⟨⟨m, hJ⟩, ?_⟩
    rw [hmu, hm, dif_pos ⟨m, hJ⟩]
    have := (Classical.choose_spec (Ve (⟨m, hJ⟩ : ∃ m, J m a' w'))).2 m hJ
    omega
   ·cases q
  | exit id => exact b5 hnp hk q h' hx'
  | ret => exact b5 hnp hk q h' hx'
def Cb (P : Program) (R : Type) (n np : Nat) (pat : Nat → Pat × (Nat → Pat)) (L : Lt R pat) (c : Code) : Prop :=
 ∀ (r : R) (B : Nat) (Iq : List Nat) (s0 : St) (g0 : Gh) (w0 : World) (d : (pat (Cq c)).1.D) (g : Gh) (a : Act) (w : World) (k : Kt R) (Q : Exit → Act → World → Prop),
  (∀ e s' nid' g' a' w', k e s' nid' = some r → Au n B Iq s' g' a' w' → Gx np B Iq s0 g0 w0 s' g' w' → Q e.to a' w') → L (Cq c) d k = some r → Au n B Iq ((pat (Cq c)).1.st d) g a w → Gx np B Iq s0 g0 w0 ((pat (Cq c)).1.st d) g w → (Code.loop c).wp P Q a w
theorem Abj {cfg : g7} {L : Lt R cfg.pat} (hm : P.follows .mixedOrders = true) (hs : A2 P cfg.sigs) (hn : cfg.n = n) (hnp : cfg.np = np) : ∀ (c : Code), (∀ c' ∈ Bb c, Cb P R n np cfg.pat L c') → ∀ {s : St} {g : Gh} {a : Act} {w : World} {nid : Nat} {k : Kt R} {Q : Exit → Act → World → Prop},
  (∀ e s' nid' g' a' w', k e s' nid' = some r → Au n B Iq s' g' a' w' → Gx np B Iq s0 g0 w0 s' g' w' → Q e.to a' w') →
  ev P cfg L c s nid k = some r → Au n B Iq s g a w → Gx np B Iq s0 g0 w0 s g w → c.wp P Q a w := by
 intro c
 induction c with
 | skip => intro hL s g a w nid k Q hk e h hx; exact wp_skip (hk .normal s nid g a w e h hx)
 | region id ops draw =>
  intro hL s g a w nid k Q hk e h hx
  simp only [ev] at e
  split at e
  ·rename_i q hq
   cases draw with
   | true => cases e
   | false =>
    simp only [cond_false] at e
    refine wp_region_list ?_
    rw [Ti hq]
    exact Mh hs hn (fun s' g' a' w' e' h' hx' => Aay hs hn hq (fun s2 g2 a2 w2 q2 h2 hx2 => hk .normal s2 _ g2 a2 w2 q2 h2 hx2) e' h' hx') e h hx
  ·exact g8 hm hs hn (fun s' g' a' w' q h' hx' => hk .normal s' _ g' a' w' q h' hx') h hx e
 | seq x y ihx ihy =>
  intro hL s g a w nid k Q hk e h hx
  simp only [ev] at e
  refine wp_seq (ihx (fun c' hc' => hL c' (List.mem_append_left _ hc')) (fun e' s' nid' g' a' w' q h' hx' => ?_) e h hx)
  cases e' with
  | normal => exact ihy (fun c' hc' => hL c' (List.mem_append_right _ hc')) hk q h' hx'
  | exit id => exact hk (.exit id) s' nid' g' a' w' q h' hx'
  | ret => exact hk .ret s' nid' g' a' w' q h' hx'
 | cond c x y ihx ihy =>
  intro hL s g a w nid k Q hk e h hx
  simp only [ev] at e
  split at e
  ·rename_i t ht
   refine wp_cond (t := t) (A6 h ht).1 ?_
   cases t with
   | true => rw [Io ht] at e; exact ihx (fun c' hc' => hL c' (List.mem_append_left _ hc')) hk e h hx
   | false => rw [Io ht] at e; exact ihy (fun c' hc' => hL c' (List.mem_append_right _ hc')) hk e h hx
  ·cases e
 | block id c ih =>
  intro hL s g a w nid k Q hk e h hx
  simp only [ev] at e
  refine wp_block (ih hL (fun e' s' nid' g' a' w' q h' hx' => ?_) e h hx)
  cases e' with
  | normal => exact hk .normal s' nid' g' a' w' q h' hx'
  | exit id' =>
   simp only at q
   show Exit.inBlock id Q (.exit id') a' w'
   unfold Exit.inBlock
   split at q
   ·rename_i hid
    simp only [hid, if_true]
    exact hk .normal s' nid' g' a' w' q h' hx'
   ·rename_i hid
    simp only [hid, if_false]
    exact hk (.exit id') s' nid' g' a' w' q h' hx'
  | ret => exact hk .ret s' nid' g' a' w' q h' hx'
 | loop c ih =>
  intro hL s g a w nid k Q hk e h hx
  simp only [ev] at e
  split at e
  ·rename_i d hd
   subst hnp
   obtain ⟨g2, k1, k2⟩ := Wp h hx hd
   exact hL c (by simp [Bb]) r B Iq s0 g0 w0 d g2 a w k Q hk e k1 k2
  ·cases e
 | exit id => intro hL s g a w nid k Q hk e h hx; exact wp_exit (hk (.exit id) s nid g a w e h hx)
 | ret => intro hL s g a w nid k Q hk e h hx; exact wp_ret (hk .ret s nid g a w e h hx)
 | rangeFunc f params x y ihx ihy => intro hL s g a w nid k Q hk e h hx; simp [ev] at e
 | scope c ih => intro hL s g a w nid k Q hk e h hx; simp [ev] at e
 | label l => intro hL s g a w nid k Q hk e h hx; simp [ev] at e
 | goto l => intro hL s g a w nid k Q hk e h hx; simp [ev] at e
 | refuse why => intro hL s g a w nid k Q hk e h hx; simp [ev] at e
end
theorem g9 {np : Nat} {cfg : g7} {L L' : Lt R cfg.pat} {c : Code} (hm : P.follows .mixedOrders = true) (hs : A2 P cfg.sigs) (hn : cfg.n = n) (hnp : cfg.np = np)
  (hL : ∀ d k (r : R), L (Cq c) d k = some r → ∃ m, Ql np (cfg.pat (Cq c)) (fun s nid k => ev P cfg L' c s nid k) m d k = some r) (hL' : ∀ c' ∈ Bb c, Cb P R n np cfg.pat L' c') : Cb P R n np cfg.pat L c := by
 intro r B Iq s0 g0 w0 d g a w k Q hk e h hx
 obtain ⟨m, e⟩ := hL d k r e
 exact Aaz rfl (fun hk' e' h' hx' => Abj hm hs hn hnp c hL' hk' e' h' hx') hk e h hx
end
end Go.Proofs.Ytkfoebbjncngjaa.R

