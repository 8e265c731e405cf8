/- A loop over a map: in whatever order the entries come, it comes to the same. No condition. -/
import Derived.Test.YtkfoebbjncngjaaRFun
namespace Go.Proofs.Ytkfoebbjncngjaa.R
open Go Go.RowKit
set_option linter.unusedVariables false
set_option linter.unusedSimpArgs false
def Kz : Code → Option Oper
 | .region _ ops draw => bif draw then none else ops.toList.head?
 | .seq a _ => Kz a
 | .block _ a => Kz a
 | _ => none
def L6 {R : Type} (P : Program) (cfg : Zo) (L : Lt R cfg.pat) : Code → St → Nat → Kt R → Option R
 | .region _ ops draw, s, nid, k => bif draw then none else Jb P cfg ops ops.toList.tail nid s (fun s' => k .normal s' (nid + Sh * ops.size))
 | .seq a b, s, nid, k => L6 P cfg L a s nid fun e s' nid' => match e with
  | .normal => ev P cfg L b s' nid' k
  | .exit id => k (.exit id) s' nid'
  | .ret => k .ret s' nid'
 | .block id c, s, nid, k => L6 P cfg L c s nid fun e s' nid' => match e with
  | .normal => k .normal s' nid'
  | .exit id' => if id' = id then k .normal s' nid' else k (.exit id') s' nid'
  | .ret => k .ret s' nid'
 | _, _, _, _ => none
def Si {D E O : Type} (left : D → List E) (stp : D → E → List E → Option D) (fin : D → Option O) : Nat → D → O → Prop
 | 0, _, _ => False
 | m + 1, d, r => (left d = [] → fin d = some r) ∧ ∀ (i : Nat) (e : E), (left d)[i]? = some e → ∃ d', stp d e ((left d).eraseIdx i) = some d' ∧ Si left stp fin m d' r
open Classical in
noncomputable def Ab1 {D E O : Type} (left : D → List E) (stp : D → E → List E → Option D) (fin : D → Option O) (d : D) : Option O :=
 if h : ∃ r, ∃ m, Si left stp fin m d r then some (Classical.choose h) else none
theorem Ab2 {D E O : Type} {left : D → List E} {stp : D → E → List E → Option D} {fin : D → Option O} {d : D} {r : O} (h : Ab1 left stp fin d = some r) : ∃ m, Si left stp fin m d r := by
 unfold Ab1 at h
 split at h
 ·rename_i hq
  cases h
  exact Classical.choose_spec hq
 ·cases h
theorem Si.one {D E O : Type} {left : D → List E} {stp : D → E → List E → Option D} {fin : D → Option O} : ∀ {m m' : Nat} {d : D} {r r' : O}, Si left stp fin m d r → Si left stp fin m' d r' → r = r'
 | 0, _, _, _, _, h, _ => h.elim
 | _, 0, _, _, _, _, h => h.elim
 | m + 1, m' + 1, d, r, r', h, k => by
  cases hl : left d with
  | nil => exact Option.some.inj ((h.1 hl).symm.trans (k.1 hl))
  | cons e l =>
   obtain ⟨d1, e1, h1⟩ := h.2 0 e (by rw [hl]; rfl)
   obtain ⟨d2, e2, h2⟩ := k.2 0 e (by rw [hl]; rfl)
   obtain rfl : d1 = d2 := Option.some.inj (e1.symm.trans e2)
   exact Si.one h1 h2
theorem Afc {D E O : Type} {left : D → List E} {stp : D → E → List E → Option D} {fin : D → Option O} {d : D} {m : Nat} {r : O} (h : Si left stp fin m d r) : Ab1 left stp fin d = some r := by
 have hq : ∃ r, ∃ m, Si left stp fin m d r := ⟨r, m, h⟩
 unfold Ab1
 rw [dif_pos hq]
 obtain ⟨m', h'⟩ := Classical.choose_spec hq
 rw [Si.one h' h]
theorem P5 : ∀ {L : List MapEntry} {i : Nat} {e : MapEntry}, L[i]? = some e → (L.map (·.born)).Nodup → (L.filter fun x => !(x.born == e.born)) = L.eraseIdx i
 | [], i, e, h, _ => by simp at h
 | x :: L, 0, e, h, hn => by
  simp at h
  subst h
  simp only [List.map_cons, List.nodup_cons] at hn
  simp only [List.filter_cons, beq_self_eq_true, Bool.not_true, Bool.false_eq_true, if_false, List.eraseIdx_cons_zero]
  exact List.filter_eq_self.2 fun y hy => by
   have : y.born ≠ x.born := fun q => hn.1 (List.mem_map.2 ⟨y, hy, q⟩)
   simp [this]
 | x :: L, i + 1, e, h, hn => by
  simp only [List.getElem?_cons_succ] at h
  simp only [List.map_cons, List.nodup_cons] at hn
  have : x.born ≠ e.born := fun q => hn.1 (List.mem_map.2 ⟨e, List.mem_of_getElem? h, q.symm⟩)
  simp only [List.filter_cons, List.eraseIdx_cons_succ]
  rw [P5 h hn.2]
  simp [this]
theorem s8 {es : Array MapEntry} {seen : Array Nat} {t : Ty} {left : List (ByteArray × t.D)} {e : MapEntry} (h : N0 es seen t left) (hn : (es.toList.map (·.born)).Nodup) (he : e ∈ (leftOf es seen).toList) :
  ∃ (i : Nat) (p : ByteArray × t.D), left[i]? = some p ∧ e.key = .string p.1 ∧ e.val = Fs t p.2 ∧ N0 es (seen.push e.born) t (left.eraseIdx i) := by
 have hL : (leftOf es seen).toList = es.toList.filter fun e => !seen.contains e.born := by unfold leftOf; rw [Array.toList_filter]
 rw [hL] at he
 obtain ⟨i, hi⟩ := List.mem_iff_getElem?.1 he
 have h1 : ((es.toList.filter fun e => !seen.contains e.born).map fun e => (e.key, e.val))[i]? = some (e.key, e.val) := by rw [List.getElem?_map, hi]; rfl
 have hM : (es.toList.filter fun e => !seen.contains e.born).map (fun e => (e.key, e.val)) = left.map fun p => (Value.string p.1, Fs t p.2) := h
 rw [hM, List.getElem?_map] at h1
 obtain ⟨p, hp, hq⟩ := Option.map_eq_some_iff.1 h1
 obtain ⟨h2, h3⟩ := Prod.mk.inj hq
 refine ⟨i, p, hp, h2.symm, h3.symm, ?_⟩
 unfold N0
 have e1 : (es.toList.filter fun x => !(seen.push e.born).contains x.born) = (es.toList.filter fun x => !seen.contains x.born).filter fun x => !(x.born == e.born) := by
  rw [List.filter_filter]
  congr 1
  funext x
  rw [contains_push, Bool.not_or, Bool.and_comm]
 have hs : ((es.toList.filter fun x => !seen.contains x.born).map (·.born)).Nodup := List.Nodup.sublist (List.Sublist.map _ (List.filter_sublist)) hn
 rw [e1, P5 hi hs, Jp, Jp, hM]
section
variable {P : Program} {n B : Nat} {Iq : List Nat} {s : St} {g : Gh} {a : Act} {w : World}
theorem Ab3 (h : Ax n B Iq s g a w) {id r b : Nat} {t : Ty} {xs left left' : List (ByteArray × t.D)} {cur cur' : Option (ByteArray × t.D)} {o : Obj} {seen' : Array Nat} {since c0' : Nat} {es : Array MapEntry} {clock : Nat}
  (hr : s.res id = .iter t xs left cur) (hb : g.blk id = some r) (hg : g.hdr id = .pointer (some ⟨r, 0, none⟩)) (hh : w.heap[r]? = some o) (hsb : Bw s g b) (hbl : b < w.heap.size) (he : w.heap[b]? = some (.map es clock)) (hs : MapKept.Stamped es clock)
  (hm : Ft es t xs) (hl : N0 es seen' t left') (ho : ∀ x ∈ es.toList, x.born < since) (hc : since ≤ c0') (hc2 : since ≤ clock)
  (hcur : ∀ k v, cur' = some (k, v) → c0' = clock ∧ ∃ e ∈ es.toList, ∃ seen0 : Array Nat, seen' = seen0.push e.born ∧ e.key = .string k ∧ e.val = Fs t v) :
  Go B Iq s g w (s.setRes id (.iter t xs left' cur')) g (Go.ChangeMaps.setBlock w r (.mapIter (some b) since seen' c0')) ∧ Ax n B Iq (s.setRes id (.iter t xs left' cur')) g a (Go.ChangeMaps.setBlock w r (.mapIter (some b) since seen' c0')) := by
 unfold Go.ChangeMaps.setBlock
 obtain ⟨hset1, hset2⟩ := MapKept.heap_set (o' := .mapIter (some b) since seen' c0') hh
 have hlive : (s.res id).live = true := by rw [hr]; rfl
 have hne : ∀ k, k ≠ r → ({ w with heap := w.heap.setIfInBounds r (.mapIter (some b) since seen' c0') } : World).heap[k]? = w.heap[k]? := fun k hk => hset2 k hk
 have hS : ∀ c, Bw s g c → c < w.heap.size → Bw (s.setRes id (.iter t xs left' cur')) g c ∧ ({ w with heap := w.heap.setIfInBounds r (.mapIter (some b) since seen' c0') } : World).heap[c]? = w.heap[c]? := by
  intro c hc _
  refine ⟨⟨hc.1, fun j hj => ?_⟩, hne c (fun q => hc.2 id hlive (by rw [q]; exact hb))⟩
  by_cases q : j = id
  ·rw [q]; exact hc.2 id hlive
  ·rw [Ab s _ q] at hj; exact hc.2 j hj
 have hI : ∀ j, Ae s g (s.setRes id (.iter t xs left' cur')) g j := by
  intro j
  by_cases q : j = id
  ·subst q
   unfold Ae
   rw [hr, Ac]
   exact .inr ⟨_, _, _, _, rfl, rfl, rfl⟩
  ·exact Ae.same (Ab s _ q) rfl rfl
 refine ⟨⟨⟨rfl, rfl, rfl, by simp, fun k hk hn => hne k (fun q => ?_)⟩, hS, hI, rfl⟩, h.step h.size h.defers (by simp) hS hI (fun i => .inl ⟨rfl, rfl⟩) (fun j => ?_) h.inj (fun j c hj => ?_) rfl⟩
 ·subst q
  rcases (h.lt id k hb).2.1 with q2 | q2
  ·exact hn q2
  ·omega
 ·by_cases q : j = id
  ·subst q
   right
   rw [Ac]
   obtain ⟨s1, s2⟩ := hS b hsb hbl
   exact ⟨b, r, es, clock, since, c0', seen', hb, hg, hset1, s1, by simp; exact hbl, s2.trans he, hs, hm, hl, ho, hc, hc2, hcur⟩
  ·left
   exact ⟨Ab s _ q, rfl, rfl, fun c hc => hne c (fun q2 => q (h.inj j id c hc (by rw [q2]; exact hb)))⟩
 ·have := h.lt j c hj
  simpa using this
theorem Afd (h : Ax n B Iq s g a w) {o : Oper} {it : Operand} (ho : o.op = .next it false) {id : Nat} {t : Ty} {xs left : List (ByteArray × t.D)} {cur : Option (ByteArray × t.D)} (hl : s.leaf it = some (.row id)) (hr : s.res id = .iter t xs left cur) :
  (left = [] ∧ (execOp a.eval o).run P w = .ok (.value (.tuple #[.bool false])) w) ∨
  ∃ (i : Nat) (p : ByteArray × t.D) (w1 : World), left[i]? = some p ∧ (execOp a.eval o).run P w = .ok (.value (.tuple #[.bool true, .string p.1, Fs t p.2])) w1 ∧
   Go B Iq s g w (s.setRes id (.iter t xs (left.eraseIdx i) (some p))) g w1 ∧ Ax n B Iq (s.setRes id (.iter t xs (left.eraseIdx i) (some p))) g a w1 := by
 obtain ⟨hlf, _⟩ := Bd h hl
 have q := h.res id
 rw [hr] at q
 obtain ⟨b, r, es, clock, since, c0, sn, r1, r2, r3, r4, r5, r6, r7, r8, r9, r10, r11, r12, r13⟩ := q
 simp only [Bm, hr] at hlf
 have hrun := run_next_at (P := P) w o.type r b since c0 sn es clock r3 r6 r10 r11
 rcases hrun with ⟨h0, hn⟩ | ⟨e, he, w1, hw1, hn⟩
 ·left
  refine ⟨?_, ?_⟩
  ·have : (es.toList.filter fun e => !sn.contains e.born) = [] := by
    have h2 : leftOf es sn = #[] := Array.eq_empty_of_size_eq_zero h0
    unfold leftOf at h2
    rw [← Array.toList_filter, h2]
   unfold N0 at r9
   rw [this] at r9
   exact List.map_eq_nil_iff.1 r9.symm
  ·simp [execOp, ho, hlf, r2, hn]
 ·right
  obtain ⟨i, p, hp, hk, hv, hle⟩ := s8 r9 r7.2.1 he
  have hmem := (mem_left he).1
  refine ⟨i, p, Go.ChangeMaps.setBlock w1 r (.mapIter (some b) since (sn.push e.born) clock), hp, ?_, ?_⟩
  ·simp only [execOp, ho, hlf, r2]
   simp [hn, hk, hv]
  ·have main : ∀ w2 : World, Ax n B Iq s g a w2 → w2.heap = w.heap → Go B Iq s g w s g w2 →
     Go B Iq s g w (s.setRes id (.iter t xs (left.eraseIdx i) (some p))) g (Go.ChangeMaps.setBlock w2 r (.mapIter (some b) since (sn.push e.born) clock)) ∧
     Ax n B Iq (s.setRes id (.iter t xs (left.eraseIdx i) (some p))) g a (Go.ChangeMaps.setBlock w2 r (.mapIter (some b) since (sn.push e.born) clock)) := by
    intro w2 h2 hw2 hg2
    obtain ⟨k1, k2⟩ := Ab3 h2 (left' := left.eraseIdx i) (cur' := some p) (seen' := sn.push e.born) (since := since) (c0' := clock) hr r1 r2 (by rw [hw2]; exact r3) r4 (by rw [hw2]; exact r5) (by rw [hw2]; exact r6) r7 r8 hle r10 r12 r12 (fun k v q => by
     cases q
     exact ⟨rfl, e, hmem, sn, rfl, hk, hv⟩)
    exact ⟨hg2.trans k1, k2⟩
   rcases hw1 with rfl | rfl
   ·exact main _ h rfl (Go.refl B Iq s g w1)
   ·obtain ⟨d1, d2⟩ := f4 h
    exact main _ d1 rfl d2
end
section
variable {R : Type} {P : Program} {n np B : Nat} {Iq : List Nat} {s0 : St} {g0 : Gh} {w0 : World} {r : R}
theorem Xd {cfg : Zo} {L : Lt R cfg.pat} (hm : P.follows .mixedOrders = true) (hs : Az P cfg.sigs) (hn : cfg.n = n) (hnp : cfg.np = np) {o : Oper} (hg : o.guard = none) {s : St} {g : Gh} {a : Act} {w w1 : World} (h : Ax n B Iq s g a w) {v : Value} (hr : (execOp a.eval o).run P w = .ok (.value v) w1)
  {s1 : St} {g1 : Gh} (h1 : Ax n B Iq s1 g1 (a.put o.dst v) w1) (hx1 : Gx np B Iq s0 g0 w0 s1 g1 w1) :
  ∀ (c : Code), (∀ c' ∈ At c, Bb P R n np cfg.pat L c') → Kz c = some o → ∀ {nid : Nat} {k : Kt R} {Q : Exit → Act → World → Prop},
  (∀ e s' nid' g' a' w', k e s' nid' = some r → Ax n B Iq s' g' a' w' → Gx np B Iq s0 g0 w0 s' g' w' → Q e.to a' w') → L6 P cfg L c s1 nid k = some r → c.wp P Q a w := by
 intro c
 induction c with
 | region id ops draw =>
  intro hL ho nid k Q hk e
  cases draw with
  | true => simp [Kz] at ho
  | false =>
   simp only [Kz, cond_false] at ho
   simp only [L6, cond_false] at e
   refine wp_region_list ?_
   cases hl : ops.toList with
   | nil => rw [hl] at ho; cases ho
   | cons o' l =>
    rw [hl] at ho e
    cases ho
    unfold wpList
    rw [Fl h (r := true) (by unfold Eu; rw [hg]), if_pos rfl]
    left
    unfold Oper.wp
    rw [hr, Oper.upon_value]
    exact M6 hs hn (fun s' g' a' w' q h' hx' => hk .normal s' _ g' a' w' q h' hx') e h1 hx1
 | seq x y ihx ihy =>
  intro hL ho nid k Q hk e
  simp only [L6] at e
  refine wp_seq (ihx (fun c' hc' => hL c' (List.mem_append_left _ hc')) ho (fun e' s' nid' g' a' w' q h' hx' => ?_) e)
  cases e' with
  | normal => exact Adl hm hs hn hnp y (fun c' hc' => hL c' (List.mem_append_right _ hc')) hk q h' hx'
  | exit id => exact hk (.exit id) s' nid' g' a' w' q h' hx'
  | ret => exact hk .ret s' nid' g' a' w' q h' hx'
 | block id c ih =>
  intro hL ho nid k Q hk e
  simp only [L6] at e
  refine wp_block (ih hL ho (fun e' s' nid' g' a' w' q h' hx' => ?_) e)
  cases e' with
  | normal => exact hk .normal s' nid' g' a' w' q h' hx'
  | exit id' =>
   simp only at q
   show Exit.inBlock id Q (.exit id') a' w'
   unfold Exit.inBlock
   split at q
   ·rename_i hid
    simp only [hid, if_true]
    exact hk .normal s' nid' g' a' w' q h' hx'
   ·rename_i hid
    simp only [hid, if_false]
    exact hk (.exit id') s' nid' g' a' w' q h' hx'
  | ret => exact hk .ret s' nid' g' a' w' q h' hx'
 | skip => intro _ ho; cases ho
 | cond c x y ihx ihy => intro _ ho; cases ho
 | loop c ih => intro _ ho; cases ho
 | exit id => intro _ ho; cases ho
 | ret => intro _ ho; cases ho
 | rangeFunc f params x y ihx ihy => intro _ ho; cases ho
 | scope c ih => intro _ ho; cases ho
 | label l => intro _ ho; cases ho
 | goto l => intro _ ho; cases ho
 | refuse why => intro _ ho; cases ho
end
def Adp (P : Program) (cfg : Zo) (c : Code) (p : Pat × (Nat → Pat)) (ii sl : Nat) (t : Ty) (xs : p.1.D → List (ByteArray × t.D)) (d : p.1.D) (e : ByteArray × t.D) (l : List (ByteArray × t.D)) : Option p.1.D :=
 L6 (R := p.1.D) P cfg O6 c (((p.1.st d).setRes ii (.iter t (xs d) l (some e))).put cfg.n (some sl) (.tp [.lf (.c (.bool true)), .lf (.c (.string e.1)), .lf (.c (Fs t e.2))])) p.1.nid fun x s nid => match x with
  | .normal => p.1.mtch cfg.np s nid
  | _ => none
def Adq (P : Program) (cfg : Zo) (c : Code) (p : Pat × (Nat → Pat)) (sl xid : Nat) (d : p.1.D) : Option (p.2 (xid + 2)).D :=
 L6 (R := (p.2 (xid + 2)).D) P cfg O6 c ((p.1.st d).put cfg.n (some sl) (.tp [.lf (.c (.bool false))])) p.1.nid fun x s nid => match x with
  | .exit id => if id = xid then (p.2 (xid + 2)).mtch cfg.np s nid else none
  | _ => none
def Aaz (c : Code) : Option (Operand × Nat) := match Kz c with
 | some o => match o.op, o.guard, o.dst with
  | .next it false, none, some sl => some (it, sl)
  | _, _, _ => none
 | none => none
theorem Adr {R : Type} {P : Program} {n np : Nat} {cfg : Zo} {L : Lt R cfg.pat} {c : Code} {key : Nat} (hkey : Bz c = key) (hm : P.follows .mixedOrders = true) (hs : Az P cfg.sigs) (hn : cfg.n = n) (hnp : cfg.np = np) {it : Operand} {sl ii xid : Nat} {t : Ty}
  (hpt : M0 t = true) (hhd : Aaz c = some (it, sl)) (hno : At c = [])
  {xs left : (cfg.pat key).1.D → List (ByteArray × t.D)} {cur : (cfg.pat key).1.D → Option (ByteArray × t.D)} (hlf : ∀ d, ((cfg.pat key).1.st d).leaf it = some (.row ii)) (hres : ∀ d, ((cfg.pat key).1.st d).res ii = .iter t (xs d) (left d) (cur d))
  {stp : (cfg.pat key).1.D → ByteArray × t.D → List (ByteArray × t.D) → Option (cfg.pat key).1.D} {fin : (cfg.pat key).1.D → Option ((cfg.pat key).2 (xid + 2)).D}
  (hstp : ∀ d e l, Adp P cfg c (cfg.pat key) ii sl t xs d e l = stp d e l) (hfin : ∀ d, Adq P cfg c (cfg.pat key) sl xid d = fin d)
  (hL : ∀ d k, L key d k = Ab1 left stp (fun d => (fin d).bind fun r => k (.exit xid) (((cfg.pat key).2 (xid + 2)).st r) ((cfg.pat key).2 (xid + 2)).nid) d) : Bb P R n np cfg.pat L c := by
 obtain ⟨o, ho, hop, hg, hd⟩ : ∃ o : Oper, Kz c = some o ∧ o.op = .next it false ∧ o.guard = none ∧ o.dst = some sl := by
  unfold Aaz at hhd
  split at hhd
  ·rename_i o ho
   split at hhd
   ·rename_i h1 h2 h3
    cases hhd
    exact ⟨o, ho, h1, h2, h3⟩
   ·cases hhd
  ·cases hhd
 subst hkey
 intro r B Iq s0 g0 w0 d g a w k Q hk e h hx
 rw [hL] at e
 obtain ⟨m, hT⟩ := Ab2 e
 let J : Nat → Act → World → Prop := fun m a w => ∃ d g, Si left stp (fun d => (fin d).bind fun r => k (.exit xid) (((cfg.pat (Bz c)).2 (xid + 2)).st r) ((cfg.pat (Bz c)).2 (xid + 2)).nid) m d r ∧ Ax n B Iq ((cfg.pat (Bz c)).1.st d) g a w ∧ Gx np B Iq s0 g0 w0 ((cfg.pat (Bz c)).1.st d) g w
 classical
 refine wp_loop (fun a w => ∃ m, J m a w) (fun a w => if hj : ∃ m, J m a w then Classical.choose (K9 hj) else 0) ⟨m, d, g, hT, h, hx⟩ fun a w hj => ?_
 have hmu : (if hj : ∃ m, J m a w then Classical.choose (K9 hj) else 0) = Classical.choose (K9 hj) := dif_pos hj
 have hspec := (Classical.choose_spec (K9 hj)).1
 generalize hmm : Classical.choose (K9 hj) = m at hspec
 obtain ⟨d, g, hT, h, hx⟩ := hspec
 cases m with
 | zero => exact hT.elim
 | succ m =>
  rcases Afd (P := P) h hop (hlf d) (hres d) with ⟨hl, hrun⟩ | ⟨i, p, w1, hp, hrun, k1, k2⟩
  ·obtain ⟨q, ef, e2⟩ := Option.bind_eq_some_iff.1 (hT.1 hl)
   rw [← hfin] at ef
   unfold Adq at ef
   rw [hn] at ef
   obtain ⟨r1, r2⟩ := E8 (av := .tp [.lf (.c (.bool false))]) (v := .tuple #[.bool false]) h o.dst ⟨_, rfl, rfl, fun j v hj => by
    match j, hj with
    | 0, hj => cases hj; exact ⟨.bool false, rfl, rfl, rfl⟩⟩
   rw [← hd] at ef
   refine Xd hm hs hn hnp hg h hrun r1 (hx.step r2) c (fun c' hc' => by rw [hno] at hc'; cases hc') ho (fun e s' nid' g' a' w' qq h' hx' => ?_) ef
   cases e with
   | normal => cases qq
   | ret => cases qq
   | exit id =>
    simp only at qq
    split at qq
    ·rename_i hid
     subst hid
     subst hnp
     obtain ⟨g2, j1, j2⟩ := P3 h' hx' qq
     exact hk (.exit id) _ _ g2 a' w' e2 j1 j2
    ·cases qq
  ·obtain ⟨d', ed, hT'⟩ := hT.2 i p hp
   rw [← hstp] at ed
   unfold Adp at ed
   rw [hn] at ed
   obtain ⟨r1, r2⟩ := E8 (av := .tp [.lf (.c (.bool true)), .lf (.c (.string p.1)), .lf (.c (Fs t p.2))]) (v := .tuple #[.bool true, .string p.1, Fs t p.2]) k2 o.dst ⟨_, rfl, rfl, fun j v hj => by
    match j, hj with
    | 0, hj => cases hj; exact ⟨.bool true, rfl, rfl, rfl⟩
    | 1, hj => cases hj; exact ⟨.string p.1, rfl, rfl, rfl⟩
    | 2, hj => cases hj; exact ⟨Fs t p.2, rfl, rfl, Ws hpt⟩⟩
   rw [← hd] at ed
   refine Xd hm hs hn hnp hg h hrun r1 ((hx.step k1).step r2) c (fun c' hc' => by rw [hno] at hc'; cases hc') ho (fun e s' nid' g' a' w' qq h' hx' => ?_) ed
   cases e with
   | ret => cases qq
   | exit id => cases qq
   | normal =>
    simp only at qq
    subst hnp
    obtain ⟨g2, j1, j2⟩ := P3 h' hx' qq
    have hJ : J m a' w' := ⟨d', g2, hT', j1, j2⟩
    refine ⟨⟨m, hJ⟩, ?_⟩
    rw [hmu, hmm, dif_pos ⟨m, hJ⟩]
    have := (Classical.choose_spec (K9 (⟨m, hJ⟩ : ∃ m, J m a' w'))).2 m hJ
    omega
end Go.Proofs.Ytkfoebbjncngjaa.R

