/- A function's body, evaluated, and its contract. No condition. -/
import Derived.Test.YtjoiklaecelalaaRCode
namespace Go.Proofs.Ytjoiklaecelalaa.R
open Go Go.RowKit
set_option linter.unusedVariables false
set_option linter.unusedSimpArgs false

/-- The leaves of the variables whose addresses were handed in. -/
def boxLs (s : St) : List Md → Nat → List Lf
  | [], _ => []
  | .rd _ :: ps, id => boxLs s ps id
  | .own _ _ :: ps, id => boxLs s ps (id + 1)
  | .bx _ _ :: ps, id => (match s.res id with | .box _ ls => ls | _ => []) ++ boxLs s ps (id + 1)
  | .mu _ _ :: ps, id => boxLs s ps (id + 1)
def bkD (s : St) : (ps : List Md) → Nat → Option (BxD ps)
  | [], _ => some ()
  | .rd _ :: ps, id => bkD s ps id
  | .own _ _ :: ps, id => bkD s ps (id + 1)
  | .bx T t :: ps, id => match s.res id with
    | .box T' ls => if T' = T then (match s.parse t ls with
      | some (z, []) => (bkD s ps (id + 1)).bind fun q => some (z, q)
      | _ => none) else none
    | _ => none
  | .mu e t :: ps, id => match s.res id with
    | .row e' t' xs => if e' = e then (if h : t' = t then (bkD s ps (id + 1)).bind fun q => some (h ▸ xs, q) else none) else none
    | _ => none
def bxIds : List Md → Nat → List Nat
  | [], _ => []
  | .rd _ :: ps, id => bxIds ps id
  | .own _ _ :: ps, id => bxIds ps (id + 1)
  | .bx _ _ :: ps, id => id :: bxIds ps (id + 1)
  | .mu _ _ :: ps, id => id :: bxIds ps (id + 1)
def fin (P : Program) (sg : Sig) (rv : List ResultVar) : Kt (MsD sg.rs × BxD sg.ps) := fun e s nid => match e with
  | .exit _ => none
  | _ => match resVals P s rv with
    | none => none
    | some vs => match shL sg.rsh vs with
      | none => none
      | some ls =>
        let sF := s.frz (toFrz s sg.rs ls ++ boxLs s sg.ps 0)
        match gat sF sg.rs ls with
        | none => none
        | some q => match bkD sF sg.ps 0 with
          | none => none
          | some z => bif nodupB (somes q.2 ++ bxIds sg.ps 0) then some (q.1, z) else none
def bodyOf (fn : Func) : Code := match fn.body with
  | some c => c
  | none => .skip
def entrySt (sg : Sig) (x : MsD sg.ps) (vs : List Vl) : St := ⟨fun i => match vs[i]? with | some v => .vl v | none => .dead, canR sg.ps x 0 (fun _ => .unborn)⟩
def evalF (P : Program) (sigs : Tb) (pat : Nat → Pat × (Nat → Pat)) (sg : Sig) (fn : Func) (L : Lt (MsD sg.rs × BxD sg.ps) pat) (x : MsD sg.ps) : Option (MsD sg.rs × BxD sg.ps) :=
  match fn.body, shV sg.psh (canL sg.ps x 0) with
  | some c, some vs => bif Nat.ble vs.length fn.ntmps then ev P ⟨sigs, cnt sg.ps, fn.ntmps, pat⟩ L c (entrySt sg x vs) (cnt sg.ps) (fin P sg fn.results.toList) else none
  | _, _ => none
section
variable {P : Program} {n B : Nat} {Iq : List Nat} {s : St} {g : Gh} {a : Act} {w : World}
theorem bxIds_in : ∀ {ps : List Md} {id j : Nat}, j ∈ bxIds ps id → id ≤ j ∧ j < id + cnt ps
  | [], _, _, h => by simp [bxIds] at h
  | .rd _ :: ps, id, j, h => bxIds_in (ps := ps) h
  | .own _ _ :: ps, id, j, h => by
    have := bxIds_in (ps := ps) h
    simp only [cnt]
    omega
  | .bx _ _ :: ps, id, j, h => by
    simp only [bxIds, List.mem_cons] at h
    simp only [cnt]
    rcases h with rfl | h
    · omega
    · have := bxIds_in (ps := ps) h
      omega
  | .mu _ _ :: ps, id, j, h => by
    simp only [bxIds, List.mem_cons] at h
    simp only [cnt]
    rcases h with rfl | h
    · omega
    · have := bxIds_in (ps := ps) h
      omega
/-- What is handed back by the variables whose addresses were handed in. -/
theorem bkD_R (hres : ∀ id, ResR s g w id (s.res id)) {g0 : Gh} : ∀ {ps : List Md} {id : Nat} {us : List Value} {y : BxD ps} {x : MsD ps} {w0 : World} {S : Nat → Prop}, bkD s ps id = some y → HR w0 S ps x us →
    (∀ j, j ∈ bxIds ps id → (∀ T ls, s.res j = .box T ls → g.blk j = (canG ps us id g0).blk j) ∧ ∀ e, ∀ t : Ty, ∀ xs : List t.D, s.res j = .row e t xs → g.blk j = (canG ps us id g0).blk j ∧ g.hdr j = (canG ps us id g0).hdr j) →
    BkR w (Sof s g) ps y us ∧ bxs ps us = owB g ((bxIds ps id).map some) ∧ ∀ j ∈ bxIds ps id, (s.res j).live = true
  | [], _, _, _, _, _, _, _, _, _ => ⟨trivial, rfl, by simp [bxIds]⟩
  | .rd t :: ps, id, us, y, x, w0, S, e, ⟨c1, c2, h1, h2, h3⟩, hp => by
    subst h1
    have hd : (c1 ++ c2).drop t.sz = c2 := by rw [← Ty.K_len h2]; simp
    simp only [BkR, bxs, hd]
    exact bkD_R (ps := ps) (x := x.2) hres e h3 (fun j q1 => by have := hp j q1; simp only [canG, hd] at this; exact this)
  | .own e0 t :: ps, id, us, y, x, w0, S, e, ⟨u, c2, h1, h2, h3⟩, hp => by
    subst h1
    simp only [BkR, bxs, List.tail_cons]
    exact bkD_R (ps := ps) (x := x.2) hres e h3 (fun j q1 => by have := hp j q1; simp only [canG, List.tail_cons] at this; exact this)
  | .bx T t :: ps, id, us, y, x, w0, S, e, ⟨b, c2, h1, h2, h3⟩, hp => by
    subst h1
    simp only [bkD] at e
    split at e
    · rename_i T' ls hr
      split at e
      · rename_i hT
        split at e
        · rename_i z hz
          obtain ⟨q, e1, e2⟩ := Option.bind_eq_some_iff.1 e
          cases e2
          subst hT
          have hb0 := (hp id (by simp [bxIds])).1 T' ls hr
          simp only [canG, List.head?_cons, List.tail_cons] at hb0
          rw [(canG_out ps c2 (id + 1) _ id (by omega)).1] at hb0
          simp only [upd_same] at hb0
          have hb : g.blk id = some b := hb0
          have r := hres id
          rw [hr] at r
          obtain ⟨b', cs, k1, k2, k3⟩ := r
          obtain rfl : b = b' := Option.some.inj (hb.symm.trans k1)
          obtain ⟨e3, k4⟩ := St.parse_K hres hz k3
          have hlen : cs.toList.take t.sz = cs.toList := by
            apply List.take_of_length_le
            have : ls.length ≤ t.sz := List.drop_eq_nil_iff.1 e3.symm
            rw [k3.length]; exact this
          rw [hlen] at k4
          obtain ⟨i1, i2, i3⟩ := bkD_R (ps := ps) (x := x.2) (us := c2) hres e1 h3 (fun j q1 => by
            have := hp j (by simp [bxIds, q1])
            simp only [canG, List.tail_cons] at this
            exact this)
          refine ⟨⟨⟨b, rfl, cs, k2, k4⟩, i1⟩, ?_, ?_⟩
          · simp only [bxs, bxIds, List.map_cons, owB, List.head?_cons, Option.bind_some, List.tail_cons, ptrBlock, hb, i2]
          · intro j hj
            simp only [bxIds, List.mem_cons] at hj
            rcases hj with rfl | hj
            · rw [hr]; rfl
            · exact i3 j hj
        · cases e
      · cases e
    · cases e
  | .mu e0 t :: ps, id, us, y, x, w0, S, e, ⟨u, c2, h1, h2, h3⟩, hp => by
    subst h1
    simp only [bkD] at e
    split at e
    · rename_i e' t' xs hr
      split at e
      · rename_i he
        split at e
        · rename_i ht
          obtain ⟨q, e1, e2⟩ := Option.bind_eq_some_iff.1 e
          cases e2
          subst he ht
          obtain ⟨hb0, hh0⟩ := (hp id (by simp [bxIds])).2 e' t' xs hr
          simp only [canG, List.head?_cons, List.tail_cons, List.headD_cons] at hb0 hh0
          rw [(canG_out ps c2 (id + 1) _ id (by omega)).1] at hb0
          rw [(canG_out ps c2 (id + 1) _ id (by omega)).2] at hh0
          simp only [upd_same, Option.bind_some] at hb0 hh0
          have r := hres id
          rw [hr] at r
          obtain ⟨cs, k1, k2, k3⟩ := r
          rw [hh0] at k1
          obtain ⟨i1, i2, i3⟩ := bkD_R (ps := ps) (x := x.2) (us := c2) hres e1 h3 (fun j q1 => by
            have := hp j (by simp [bxIds, q1])
            simp only [canG, List.tail_cons] at this
            exact this)
          refine ⟨⟨⟨u, rfl, cs, k1, k2⟩, i1⟩, ?_, ?_⟩
          · simp only [bxs, bxIds, List.map_cons, owB, List.head?_cons, Option.bind_some, List.tail_cons, hb0, i2]
          · intro j hj
            simp only [bxIds, List.mem_cons] at hj
            rcases hj with rfl | hj
            · rw [hr]; rfl
            · exact i3 j hj
        · cases e
      · cases e
    · cases e
theorem somes_app (a b : List (Option Nat)) : somes (a ++ b) = somes a ++ somes b := by
  induction a with
  | nil => rfl
  | cons x r ih => cases x <;> simp [somes, ih]
theorem somes_map (l : List Nat) : somes (l.map some) = l := by
  induction l with
  | nil => rfl
  | cons x r ih => simp [somes, ih]
theorem owB_app (g : Gh) (a b : List (Option Nat)) : owB g (a ++ b) = owB g a ++ owB g b := by
  induction a with
  | nil => rfl
  | cons x r ih => simp [owB, ih]
theorem bxIds_live : ∀ {ps : List Md} {x : MsD ps} {id j : Nat} {res : Nat → Res}, j ∈ bxIds ps id → (canR ps x id res j).live = true
  | [], _, _, _, _, h => by simp [bxIds] at h
  | .rd _ :: ps, x, id, j, res, h => bxIds_live (ps := ps) h
  | .own e t :: ps, x, id, j, res, h => bxIds_live (ps := ps) h
  | .bx T t :: ps, x, id, j, res, h => by
    simp only [bxIds, List.mem_cons] at h
    rcases h with rfl | h
    · have : canR (.bx T t :: ps) x j res j = .box T (t.leafs x.1) := (canR_out ps x.2 (j + 1) _ j (by omega)).trans (upd_same _ _ _)
      rw [this]
      rfl
    · exact bxIds_live (ps := ps) h
  | .mu e t :: ps, x, id, j, res, h => by
    simp only [bxIds, List.mem_cons] at h
    rcases h with rfl | h
    · have : canR (.mu e t :: ps) x j res j = .row e t x.1 := (canR_out ps x.2 (j + 1) _ j (by omega)).trans (upd_same _ _ _)
      rw [this]
      rfl
    · exact bxIds_live (ps := ps) h
/-- The contract of a function, from its body evaluated. -/
theorem fn_sound {sigs : Tb} {pat : Nat → Pat × (Nat → Pat)} {f : FuncId} {fn : Func} {sg : Sig} {den : MsD sg.ps → Option (MsD sg.rs × BxD sg.ps)} (hm : P.follows .mixedOrders = true) (hs : SigsOk P sigs)
    (hf : P.funcs[f]? = some fn) (hname : (fn.name == "runtime.NumGoroutine") = false) (hbody : fn.body.isNone = false) (hden : ∀ x r, den x = some r → ∃ L, (∀ c ∈ loopsIn (bodyOf fn), LoopOk P (MsD sg.rs × BxD sg.ps) fn.ntmps (cnt sg.ps) pat L c) ∧ evalF P sigs pat sg fn L x = some r) : Callable P f ∧ Sound P f sg den := by
  have sound : Sound P f sg den := by
    intro x r hx w S us args hHR hSh hOwn
    obtain ⟨L, hLo, he⟩ := hden x r hx
    unfold evalF at he
    split at he
    · rename_i c vs hb hvs
      have hbo : bodyOf fn = c := by unfold bodyOf; rw [hb]
      rw [hbo] at hLo
      obtain ⟨hle, he⟩ := cond_some he
      have hle := Nat.le_of_ble_eq_true hle
      refine calls_of_wp hf hb ?_
      generalize hg0 : canG sg.ps us 0 ⟨fun _ => none, fun _ => undef, fun b => b < w.heap.size ∧ ¬ S b ∧ b ∉ blks sg.ps us⟩ = g0
      have hav : g0.av = fun b => b < w.heap.size ∧ ¬ S b ∧ b ∉ blks sg.ps us := by rw [← hg0]; exact canG_av _ _ _ _
      have hin : ∀ j b, g0.blk j = some b → j < cnt sg.ps ∧ b ∈ blks sg.ps us := by
        intro j b q
        by_cases hj : j < cnt sg.ps
        · rw [← hg0] at q
          exact ⟨hj, canG_in _ _ _ _ j b (by omega) (by omega) q⟩
        · rw [← hg0, (canG_out _ _ _ _ j (by omega)).1] at q
          cases q
      have hSof : ∀ b, S b → b < w.heap.size → Sof (entrySt sg x vs) g0 b := by
        intro b hb _
        refine ⟨by rw [hav]; exact fun q => q.2.1 hb, fun j _ q => ?_⟩
        exact (hOwn.2 b (hin j b q).2).2 hb
      obtain ⟨hL, hR⟩ := can_R (s := entrySt sg x vs) (g := g0) hSof sg.ps x us 0 (fun _ => .unborn) ⟨fun _ => none, fun _ => undef, fun b => b < w.heap.size ∧ ¬ S b ∧ b ∉ blks sg.ps us⟩ hHR (fun j _ _ => ⟨rfl, by rw [hg0], by rw [hg0]⟩)
      have hV := shV_R hvs hL hSh
      have hargs : args.length = vs.length := hV.length
      have hent : Rel fn.ntmps w.heap.size (blks sg.ps us) (entrySt sg x vs) g0 { tmps := args.toArray ++ Array.replicate (fn.ntmps - args.toArray.size) undef, defers := [] } w := by
        refine ⟨by simp; omega, rfl, Nat.le_refl _, fun i => ?_, fun j => ?_, fun i j b q1 q2 => ?_, fun j b q => ?_, fun b q => ?_⟩
        · show AVR _ _ _ (match vs[i]? with | some v => .vl v | none => .dead) _
          cases hi : vs[i]? with
          | none => trivial
          | some v =>
            obtain ⟨u, e1, e2⟩ := hV.get hi
            have hlt := (List.getElem?_eq_some_iff.1 e1).1
            have : (args.toArray ++ Array.replicate (fn.ntmps - args.toArray.size) undef).getD i undef = u := by
              rw [Array.getD_eq_getD_getElem?, Array.getElem?_append_left (by simpa using hlt), List.getElem?_toArray, e1]
              rfl
            rw [this]
            exact e2
        · by_cases hj : j < cnt sg.ps
          · exact (hR j (by omega) (by omega)).1
          · have h1 : (entrySt sg x vs).res j = .unborn := canR_out _ _ _ _ j (by omega)
            rw [h1]
            show g0.blk j = none
            cases hq : g0.blk j with
            | none => rfl
            | some b => exact absurd (hin j b hq).1 hj
        · rw [← hg0] at q1 q2
          refine canG_inj _ _ _ _ i j b hOwn.1 (by omega) ?_ (by omega) ?_ q1 q2
          · rw [hg0] at q1; have := (hin i b q1).1; omega
          · rw [hg0] at q2; have := (hin j b q2).1; omega
        · have := (hin j b q).2
          exact ⟨(hOwn.2 b this).1, .inl this, by rw [hav]; exact fun q => q.2.2 this⟩
        · rw [hav] at q
          exact q.1
      have hgx : Gx (cnt sg.ps) w.heap.size (blks sg.ps us) (entrySt sg x vs) g0 w (entrySt sg x vs) g0 w := by
        refine ⟨Kp.refl _ _ _, rfl, fun id _ hl => ⟨fun q => (by rw [q] at hl; cases hl), fun T ls q => ⟨⟨T, ls, q⟩, rfl⟩, fun e t xs q => ⟨⟨e, xs, q⟩, rfl, rfl⟩⟩⟩
      refine ev_ok (r := r) (Q := bodyPost P fn _) (cfg := ⟨sigs, cnt sg.ps, fn.ntmps, pat⟩) (L := L) hm hs rfl rfl c hLo (fun e s' nid' g' a' w' hk hR' hX' => ?_) he hent hgx
      -- the end
      have hfin : ∀ {vs' : List Vl} {ls : List Lf} {q : MsD sg.rs × List (Option Nat)} {z : BxD sg.ps}, resVals P s' fn.results.toList = some vs' → shL sg.rsh vs' = some ls →
          gat (s'.frz (toFrz s' sg.rs ls ++ boxLs s' sg.ps 0)) sg.rs ls = some q → bkD (s'.frz (toFrz s' sg.rs ls ++ boxLs s' sg.ps 0)) sg.ps 0 = some z → nodupB (somes q.2 ++ bxIds sg.ps 0) = true →
          a'.defers = [] ∧ ∃ v, (results fn a'.tmps).run P w' = .ok v w' ∧ ∃ vs us', Ending.returned v = .returned (retV vs) ∧ ShR sg.rsh vs us' ∧ Keeps (blks sg.ps us) w w' ∧
            HR w' (After w S (blks sg.ps us) (blks sg.rs us' ++ bxs sg.ps us)) sg.rs q.1 us' ∧ BkR w' (After w S (blks sg.ps us) (blks sg.rs us' ++ bxs sg.ps us)) sg.ps z us ∧
            (blks sg.rs us' ++ bxs sg.ps us).Nodup ∧ ∀ b ∈ blks sg.rs us', b < w'.heap.size ∧ (b ∈ blks sg.ps us ∨ w.heap.size ≤ b) := by
        intro vs' ls q z h1 h2 h3 h4 h5
        obtain ⟨us1, r1, r2⟩ := results_run hR' h1
        obtain ⟨cs, hsh, hL'⟩ := shL_R h2 r2
        obtain ⟨gF, hF, goF, hlf⟩ := frz_ok (ls := toFrz s' sg.rs ls ++ boxLs s' sg.ps 0) hR'
        have hXF := hX'.step goF
        have hLF := hL'.imp hlf
        obtain ⟨k1, k2, k3⟩ := gat_R hF.res (x := q.1) (ow := q.2) h3 hLF
        obtain ⟨b1, b2, b3⟩ := bkD_R hF.res (g0 := ⟨fun _ => none, fun _ => undef, fun b => b < w.heap.size ∧ ¬ S b ∧ b ∉ blks sg.ps us⟩) (x := x) (us := us) h4 hHR (fun j q1 => by
          have hj := bxIds_in q1
          obtain ⟨_, p2, p3⟩ := hXF.pin j (show j < cnt sg.ps by omega) (bxIds_live q1)
          rw [hg0]
          exact ⟨fun T bl q2 => (p2 T bl q2).2, fun e t xs q2 => (p3 e t xs q2).2⟩)
        have hnd := nodup_of h5
        have hgone : blks sg.rs cs ++ bxs sg.ps us = owB gF (q.2 ++ (bxIds sg.ps 0).map some) := by rw [k2, b2, owB_app]
        have hS2 : ∀ b, Sof (s'.frz (toFrz s' sg.rs ls ++ boxLs s' sg.ps 0)) gF b → b < w'.heap.size → After w S (blks sg.ps us) (blks sg.rs cs ++ bxs sg.ps us) b := by
          rintro b ⟨q1, q2⟩ _
          rw [hXF.av, hav] at q1
          refine ⟨?_, fun hq => ?_⟩
          · by_cases c1 : S b
            · exact .inl c1
            · by_cases c2 : b ∈ blks sg.ps us
              · exact .inr (.inl c2)
              · right; right
                rcases Nat.lt_or_ge b w.heap.size with c3 | c3
                · exact absurd ⟨c3, c1, c2⟩ q1
                · exact c3
          · rw [hgone] at hq
            obtain ⟨id, p1, p2⟩ := owB_mem.1 hq
            rw [somes_app, somes_map] at p1
            rcases List.mem_append.1 p1 with p1 | p1
            · exact q2 id (k3 id p1) p2
            · exact q2 id (b3 id p1) p2
        refine ⟨hR'.defers, _, r1, us1, cs, rfl, hsh, ⟨hX'.kp.os, hX'.kp.tape, hX'.kp.output, hX'.kp.size, fun k q1 q2 => hX'.kp.block k q1 q2⟩, HR_imp (.inr hS2) k1, BkR_imp (.inr hS2) b1, ?_, fun b hb => ?_⟩
        · rw [hgone]
          exact owB_nodup hF.inj (by rw [somes_app, somes_map]; exact hnd)
        · rw [k2] at hb
          obtain ⟨id, p1, p2⟩ := owB_mem.1 hb
          obtain ⟨q1, q2, _⟩ := hF.lt id b p2
          exact ⟨q1, q2⟩
      have hend : ∀ (e : Ex), (∀ id, e ≠ .exit id) → (match resVals P s' fn.results.toList with
          | none => none
          | some vs => match shL sg.rsh vs with
            | none => none
            | some ls =>
              let sF := s'.frz (toFrz s' sg.rs ls ++ boxLs s' sg.ps 0)
              match gat sF sg.rs ls with
              | none => none
              | some q => match bkD sF sg.ps 0 with
                | none => none
                | some z => bif nodupB (somes q.2 ++ bxIds sg.ps 0) then some (q.1, z) else none) = some r → bodyPost P fn (fun e w' => ∃ vs us', e = .returned (retV vs) ∧ ShR sg.rsh vs us' ∧ Keeps (blks sg.ps us) w w' ∧
              HR w' (After w S (blks sg.ps us) (blks sg.rs us' ++ bxs sg.ps us)) sg.rs r.1 us' ∧ BkR w' (After w S (blks sg.ps us) (blks sg.rs us' ++ bxs sg.ps us)) sg.ps r.2 us ∧
              (blks sg.rs us' ++ bxs sg.ps us).Nodup ∧ ∀ b ∈ blks sg.rs us', b < w'.heap.size ∧ (b ∈ blks sg.ps us ∨ w.heap.size ≤ b)) e.to a' w' := by
        intro e hne h
        split at h
        · cases h
        · rename_i vs' h1
          split at h
          · cases h
          · rename_i ls h2
            dsimp only at h
            split at h
            · cases h
            · rename_i q h3
              split at h
              · cases h
              · rename_i z h4
                obtain ⟨h5, h6⟩ := cond_some h
                cases h6
                obtain ⟨f1, v, f2, f3⟩ := hfin h1 h2 h3 h4 h5
                cases e with
                | normal => exact ⟨f1, v, f2, f3⟩
                | ret => exact ⟨f1, v, f2, f3⟩
                | exit id => exact absurd rfl (hne id)
      cases e with
      | normal => exact hend .normal (fun id q => by cases q) hk
      | ret => exact hend .ret (fun id q => by cases q) hk
      | exit id => cases hk
    · cases he
  exact ⟨⟨fn, hf, hname, hbody⟩, sound⟩
def noPat : Nat → Pat × (Nat → Pat) := fun _ => (⟨[], [], []⟩, fun _ => ⟨[], [], []⟩)
def noSig : Tb := Tb.of fun _ => none
theorem noSig_ok : SigsOk P noSig := SigsOk.of fun f sd h => by cases h
def noL {R : Type} {pat : Nat → Pat × (Nat → Pat)} : Lt R pat := fun _ _ _ => none
/-- One loop more. -/
def addL {R : Type} {pat : Nat → Pat × (Nat → Pat)} (key : Nat) (F : (pat key).1.D → Kt R → Option R) (L : Lt R pat) : Lt R pat := fun j d k => if h : j = key then F (h ▸ d) k else L j d k
theorem addL_same {R : Type} {pat : Nat → Pat × (Nat → Pat)} {key : Nat} {F : (pat key).1.D → Kt R → Option R} {L : Lt R pat} (d : (pat key).1.D) (k : Kt R) : addL key F L key d k = F d k := by simp [addL]
theorem addL_ne {R : Type} {pat : Nat → Pat × (Nat → Pat)} {key j : Nat} {F : (pat key).1.D → Kt R → Option R} {L : Lt R pat} (h : j ≠ key) (d : (pat j).1.D) (k : Kt R) : addL key F L j d k = L j d k := by simp [addL, h]
/-- A size as a number. -/
abbrev nI (n : Nat) : Int := (n : Int)
/-- By cases. -/
def onSum {α β γ : Type} (f : α → γ) (g : β → γ) : α ⊕ β → γ
  | .inl a => f a
  | .inr b => g b
/-- A function without a loop. -/
theorem fn_plain {sigs : Tb} {f : FuncId} {fn : Func} {sg : Sig} {den : MsD sg.ps → Option (MsD sg.rs × BxD sg.ps)} (hm : P.follows .mixedOrders = true) (hs : SigsOk P sigs)
    (hf : P.funcs[f]? = some fn) (hname : (fn.name == "runtime.NumGoroutine") = false) (hbody : fn.body.isNone = false) (h0 : loopsIn (bodyOf fn) = []) {pat : Nat → Pat × (Nat → Pat)} (hden : ∀ x r, den x = some r → evalF P sigs pat sg fn noL x = some r) : Callable P f ∧ Sound P f sg den :=
  fn_sound (pat := pat) hm hs hf hname hbody fun x r hx => ⟨noL, ⟨fun c hc => (by rw [h0] at hc; cases hc), hden x r hx⟩⟩
/-- A function with loops. -/
theorem fn_loops {sigs : Tb} {f : FuncId} {fn : Func} {sg : Sig} {den : MsD sg.ps → Option (MsD sg.rs × BxD sg.ps)} {pat : Nat → Pat × (Nat → Pat)} (L : Lt (MsD sg.rs × BxD sg.ps) pat) (hm : P.follows .mixedOrders = true) (hs : SigsOk P sigs)
    (hf : P.funcs[f]? = some fn) (hname : (fn.name == "runtime.NumGoroutine") = false) (hbody : fn.body.isNone = false) (hL : ∀ c ∈ loopsIn (bodyOf fn), LoopOk P (MsD sg.rs × BxD sg.ps) fn.ntmps (cnt sg.ps) pat L c) (hden : ∀ x r, den x = some r → evalF P sigs pat sg fn L x = some r) : Callable P f ∧ Sound P f sg den :=
  fn_sound (pat := pat) hm hs hf hname hbody fun x r hx => ⟨L, ⟨hL, hden x r hx⟩⟩
/-- A loop whose rounds are told by their data. -/
theorem loop_key {R : Type} {np n : Nat} {cfg : Cfg} {L : Lt R cfg.pat} {c : Code} {key : Nat} (hkey : loopKey c = key) (hm : P.follows .mixedOrders = true) (hs : SigsOk P cfg.sigs) (hn : cfg.n = n) (hnp : cfg.np = np)
    (hL : ∀ d k (r : R), L key d k = some r → ∃ m, loopN np (cfg.pat key) (fun s nid k => ev P cfg L c s nid k) m d k = some r) (hL' : ∀ c' ∈ loopsIn c, LoopOk P R n np cfg.pat L c') : LoopOk P R n np cfg.pat L c := by
  subst hkey
  exact loopOk_of hm hs hn hnp hL hL'
theorem onSum_bind {α β γ δ : Type} (f : α → Option γ) (g : β → Option γ) (o : α ⊕ β) (h : γ → Option δ) : (onSum f g o).bind h = onSum (fun a => (f a).bind h) (fun b => (g b).bind h) o := by cases o <;> rfl
theorem ite_bind {α β : Type} (c : Prop) [Decidable c] (x y : Option α) (f : α → Option β) : (if c then x else y).bind f = if c then x.bind f else y.bind f := by split <;> rfl
theorem cond_bind {α β : Type} (c : Bool) (x y : Option α) (f : α → Option β) : (bif c then x else y).bind f = bif c then x.bind f else y.bind f := by cases c <;> rfl
end
end Go.Proofs.Ytjoiklaecelalaa.R
