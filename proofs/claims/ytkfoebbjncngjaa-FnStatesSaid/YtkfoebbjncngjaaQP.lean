/- What a state holds behind a batch, and out of its snapshot. No condition. -/
import Derived.Test.YtkfoebbjncngjaaQA
namespace Go.Proofs.Ytkfoebbjncngjaa.V
open Go Go.Proofs.Ytkfoebbjncngjaa.R
set_option linter.unusedVariables false
set_option linter.unusedSimpArgs false
theorem Aef {k v : ByteArray} : ∀ {l : List Pr2}, Ta l → (k, v, ()) ∈ l → R5 k l = (v, true)
 | [], _, h => by cases h
 | x :: r, hs, h => by
  obtain ⟨h1, h2⟩ := List.pairwise_cons.1 hs
  unfold R5 Jc
  cases hq : x.1.toList == k.toList with
  | true =>
   have e := Ad1 hq
   rcases List.mem_cons.1 h with q | q
   ·rw [← q]; rfl
   ·have := h1 _ q
    rw [e, Ht] at this
    cases this
  | false =>
   rcases List.mem_cons.1 h with q | q
   ·rw [← q] at hq
    simp at hq
   ·exact Aef h2 q
theorem Abb {k : ByteArray} : ∀ {l : List Pr2}, (∀ x ∈ l, x.1 ≠ k) → R5 k l = (⟨#[]⟩, false)
 | [], _ => rfl
 | x :: r, h => by
  unfold R5 Jc
  cases hq : x.1.toList == k.toList with
  | true => exact absurd (Ad1 hq) (h x (by simp))
  | false => exact Abb fun y hy => h y (by simp [hy])
theorem U9 {x : Pr2} : ∀ {b : List Chg} {i : Nat} {l : List Pr2}, (∀ c ∈ b, c.1 ≠ x.1) → (x ∈ Ck (fun _ c l => G2 c l) i b l ↔ x ∈ l)
 | [], _, _, _ => Iff.rfl
 | c :: b, i, l, h => by
  show x ∈ Ck (fun _ c l => G2 c l) (i + 1) b (G2 c l) ↔ _
  rw [U9 fun d hd => h d (by simp [hd])]
  unfold G2
  rw [F5]
  have hc := h c (by simp)
  constructor
  ·rintro (⟨q, _⟩ | ⟨_, q⟩)
   ·exact q
   ·rw [q] at hc; exact absurd rfl hc
  ·exact fun q => .inl ⟨q, fun e => hc e.symm⟩
theorem Xt {x : Pr2} {k : ByteArray} (hx : x.1 = k) : ∀ {b : List Chg} {i : Nat} {l : List Pr2} {j : Nat}, j < b.length → (b.getD j zC).1 = k → (∀ t, j < t → t < b.length → (b.getD t zC).1 ≠ k) →
  (x ∈ Ck (fun _ c l => G2 c l) i b l ↔ (b.getD j zC).2.2.1 = false ∧ x = (k, (b.getD j zC).2.1, ()))
 | [], _, _, _, h, _, _ => by simp at h
 | c :: b, i, l, 0, h, hk, hl => by
  show x ∈ Ck (fun _ c l => G2 c l) (i + 1) b (G2 c l) ↔ _
  have hk' : c.1 = k := hk
  rw [U9 fun d hd => ?_]
  ·unfold G2
   rw [F5, hk']
   constructor
   ·rintro (⟨_, q⟩ | q)
    ·exact absurd hx q
    ·exact q
   ·exact fun q => .inr q
  ·obtain ⟨t, ht, e⟩ := List.getElem_of_mem hd
   have := hl (t + 1) (by omega) (by simpa using ht)
   rw [hx]
   rw [List.getD_cons_succ, List.getD_eq_getElem?_getD, List.getElem?_eq_getElem ht, Option.getD_some, e] at this
   exact this
 | c :: b, i, l, j + 1, h, hk, hl => by
  show x ∈ Ck (fun _ c l => G2 c l) (i + 1) b (G2 c l) ↔ _
  rw [List.getD_cons_succ] at hk ⊢
  exact Xt hx (by simpa using h) hk fun t h1 h2 => by
   have := hl (t + 1) (by omega) (by simpa using h2)
   rw [List.getD_cons_succ] at this
   exact this
theorem Aeg {s : Stt} {b : List Chg} (h : (A6 s b).2 = 0) : Af s = true ∧ Av b = true ∧ (A6 s b).1 = (C3 s.1 b, ()) ∧ (C3 s.1 b).length ≤ 100 := by
 unfold A6 at h ⊢
 cases hv : Af s with
 | false => rw [hv] at h; cases h
 | true =>
  cases hb : Av b with
  | false => rw [hv, hb] at h; cases h
  | true =>
   rw [hv, hb] at h
   simp only [Bool.not_true, cond_false] at h ⊢
   by_cases q : (C3 s.1 b).length > 100
   ·rw [decide_eq_true q] at h; cases h
   ·rw [decide_eq_false q]
    exact ⟨trivial, trivial, rfl, by omega⟩
theorem Acb {s : Stt} {b : List Chg} (h : (A6 s b).2 ≠ 0) : (A6 s b).1 = zSs := by
 unfold A6 at h ⊢
 cases hv : Af s with
 | false => rfl
 | true =>
  cases hb : Av b with
  | false => rfl
  | true =>
   rw [hv, hb] at h
   simp only [Bool.not_true, cond_false] at h ⊢
   by_cases q : (C3 s.1 b).length > 100
   ·rw [decide_eq_true q]; rfl
   ·rw [decide_eq_false q] at h
    exact absurd rfl h
theorem Acc {s : Stt} {b : List Chg} (h : (A6 s b).2 = 0) {j : Nat} (hj : j < b.length) (hl : ∀ t, j < t → t < b.length → (b.getD t zC).1 ≠ (b.getD j zC).1) :
  Aa2 (A6 s b).1 (b.getD j zC).1 = bif (b.getD j zC).2.2.1 then (⟨#[]⟩, false) else ((b.getD j zC).2.1, true) := by
 have hv := Mg s b
 have hs := Jz hv
 unfold Aa2
 rw [hv, cond_true]
 obtain ⟨_, _, e, _⟩ := Aeg h
 rw [e] at hs ⊢
 have key : ∀ x : Pr2, x.1 = (b.getD j zC).1 → (x ∈ C3 s.1 b ↔ (b.getD j zC).2.2.1 = false ∧ x = ((b.getD j zC).1, (b.getD j zC).2.1, ())) := fun x hx => Xt hx hj rfl hl
 cases hg : (b.getD j zC).2.2.1 with
 | true =>
  refine Abb fun x hx q => ?_
  have := (key x q).1 hx
  rw [hg] at this
  cases this.1
 | false => exact Aef hs ((key ((b.getD j zC).1, (b.getD j zC).2.1, ()) rfl).2 ⟨hg, rfl⟩)
theorem Va {b : List Chg} (h1 : 1 ≤ b.length) (h2 : b.length ≤ 20) (h : ∀ c ∈ b, F3 c = true) : Av b = true := by
 unfold Av M8
 rw [decide_eq_true (show (1 : Int) ≤ (b.length : Int) by omega), decide_eq_true (show (b.length : Int) ≤ 20 by omega)]
 simp only [Bool.true_and, cond_true, Bool.and_self]
 refine List.all_eq_true.2 fun i hi => ?_
 have hi := (List.mem_range'_1.1 hi).2
 rw [List.getD_eq_getElem?_getD, List.getElem?_eq_getElem (by omega), Option.getD_some]
 exact h _ (List.getElem_mem _)
theorem Acd {p : Pr2} (h : Afl p) : F3 (setC p) = true := by
 obtain ⟨h1, h2⟩ := h
 unfold F3 setC
 rw [h1, decide_eq_true h2]
 rfl
theorem Tg {l m : List Pr2} : Ta (l ++ m) ↔ Ta l ∧ Ta m ∧ ∀ x ∈ l, ∀ y ∈ m, bl x.1 y.1 = true := List.pairwise_append
theorem Vb : ∀ {m l : List Pr2} {i : Nat}, Ta (l ++ m) → Ck (fun _ c l => G2 c l) i (m.map setC) l = l ++ m
 | [], l, i, _ => by simp [Ck]
 | p :: m, l, i, hs => by
  show Ck (fun _ c l => G2 c l) (i + 1) (m.map setC) (G2 (setC p) l) = _
  have hs' : Ta ((l ++ [p]) ++ m) := by rw [List.append_assoc]; exact hs
  have e : G2 (setC p) l = l ++ [p] := by
   obtain ⟨h1, h2, h3⟩ := Tg.1 (Tg.1 hs').1
   refine Tc (K2 _ _ h1) (Tg.1 hs').1 fun x => ?_
   unfold G2
   rw [F5]
   simp only [setC, List.mem_append, List.mem_singleton]
   constructor
   ·rintro (⟨q, _⟩ | ⟨_, q⟩)
    ·exact .inl q
    ·exact .inr q
   ·rintro (q | q)
    ·exact .inl ⟨q, Ad8 (h3 x q p (by simp))⟩
    ·exact .inr ⟨trivial, q⟩
  rw [e, Vb hs', List.append_assoc]
  rfl
theorem Xu {l m : List Pr2} (h : Af (l ++ m, ()) = true) : Af (l, ()) = true := by
 have hl := Cb h
 simp only [List.length_append] at hl
 exact j8 (by omega) (fun x hx => Q5 h x (List.mem_append_left _ hx)) (Tg.1 (Jz h)).1
theorem x7 {l m : List Pr2} (h : Af (l ++ m, ()) = true) (h1 : 1 ≤ m.length) (h2 : m.length ≤ 20) : A6 (l, ()) (m.map setC) = ((l ++ m, ()), 0) := by
 have hv := Xu h
 have hb : Av (m.map setC) = true := Va (by simpa using h1) (by simpa using h2) fun c hc => by
  obtain ⟨p, hp, rfl⟩ := List.mem_map.1 hc
  exact Acd (Q5 h p (List.mem_append_right _ hp))
 have e : C3 l (m.map setC) = l ++ m := Vb (Jz h)
 have hl := Cb h
 unfold A6
 rw [hv, hb]
 show (bif decide ((C3 l (m.map setC)).length > 100) then _ else _) = _
 rw [e, decide_eq_false (show ¬ (l ++ m).length > 100 from Nat.not_lt.2 hl)]
 rfl
def Xv (L : List (List Chg)) (m : List Pr2) : Prop := L.flatten = m.map setC ∧ ∀ b ∈ L, 1 ≤ b.length ∧ b.length ≤ 20
theorem Xv.cons {b : List Chg} {L : List (List Chg)} {m : List Pr2} (h : Xv (b :: L) m) : ∃ x y, m = x ++ y ∧ b = x.map setC ∧ 1 ≤ x.length ∧ x.length ≤ 20 ∧ Xv L y := by
 obtain ⟨h1, h2⟩ := h
 obtain ⟨k1, k2⟩ := h2 b (by simp)
 rw [List.flatten_cons] at h1
 have hl : b.length ≤ m.length := by
  have := congrArg List.length h1
  simp only [List.length_append, List.length_map] at this
  omega
 have e1 : b = (m.take b.length).map setC := by
  have := congrArg (List.take b.length) h1
  rwa [List.take_left, ← List.map_take] at this
 have e2 : L.flatten = (m.drop b.length).map setC := by
  have := congrArg (List.drop b.length) h1
  rwa [List.drop_left, ← List.map_drop] at this
 have e3 : (m.take b.length).length = b.length := by simp; omega
 exact ⟨m.take b.length, m.drop b.length, (List.take_append_drop _ _).symm, e1, by omega, by omega, e2, fun c hc => h2 c (by simp [hc])⟩
theorem Xw (c : Bool) (xs : List (List Chg)) (y : List Chg) : (Hn c xs y).flatten = xs.flatten ++ (bif c then y else []) := by
 cases c <;> simp [Hn]
theorem Xx : ∀ (m : List Pr2) (i : Nat) (s : List (List Chg) × Bool × List Chg) (p : List Pr2), i = p.length → s.1.flatten ++ (bif s.2.1 then s.2.2 else []) = p.map setC → (∀ b ∈ s.1, 1 ≤ b.length ∧ b.length ≤ 20) →
  (0 < i → s.2.1 = true) → (s.2.1 = true → s.2.2.length = (if i % 20 = 0 then 20 else i % 20) ∧ 0 < i) → Xv (let r := Ck D6 i m s; Hn r.2.1 r.1 r.2.2) (p ++ m)
 | [], i, s, p, hi, h1, h2, h3, h4 => by
  refine ⟨?_, fun b hb => ?_⟩
  ·show (Hn s.2.1 s.1 s.2.2).flatten = _
   rw [Xw, h1, List.append_nil]
  ·have hb : b ∈ Hn s.2.1 s.1 s.2.2 := hb
   cases hc : s.2.1 with
   | false => rw [hc] at hb; exact h2 b hb
   | true =>
    rw [hc] at hb
    obtain ⟨h5, h6⟩ := h4 hc
    have hb : b ∈ s.1 ++ [s.2.2] := hb
    rcases List.mem_append.1 hb with q | q
    ·exact h2 b q
    ·rw [List.mem_singleton.1 q, h5]
     split <;> omega
 | x :: m, i, s, p, hi, h1, h2, h3, h4 => by
  have key := Xx m (i + 1) (D6 i x s) (p ++ [x]) (by simp [hi]) (by
   unfold D6
   cases hq : i % 20 == 0 with
   | true =>
    simp only [cond_true]
    rw [Xw, h1]
    simp
   | false =>
    have hp : 0 < i := Nat.pos_of_ne_zero fun q => by subst q; cases hq
    rw [h3 hp] at h1
    simp only [cond_false, h3 hp, cond_true] at h1 ⊢
    rw [← List.append_assoc, h1]
    simp) (by
   unfold D6
   cases hq : i % 20 == 0 with
   | true =>
    simp only [cond_true]
    intro b hb
    cases hc : s.2.1 with
    | false => rw [hc] at hb; exact h2 b hb
    | true =>
     rw [hc] at hb
     obtain ⟨h5, h6⟩ := h4 hc
     have hb : b ∈ s.1 ++ [s.2.2] := hb
     rcases List.mem_append.1 hb with q | q
     ·exact h2 b q
     ·rw [List.mem_singleton.1 q, h5]
      split <;> omega
   | false => exact h2) (by
   intro _
   unfold D6
   cases hq : i % 20 == 0 with
   | true => rfl
   | false => exact h3 (Nat.pos_of_ne_zero fun q => by subst q; cases hq)) (by
   unfold D6
   cases hq : i % 20 == 0 with
   | true =>
    intro _
    have hq := beq_iff_eq.1 hq
    refine ⟨?_, by omega⟩
    show 1 = _
    rw [if_neg (by omega)]
    omega
   | false =>
    intro hc
    have hq := beq_eq_false_iff_ne.1 hq
    obtain ⟨h5, h6⟩ := h4 hc
    refine ⟨?_, by omega⟩
    show (s.2.2 ++ [setC x]).length = _
    rw [List.length_append, List.length_singleton, h5, if_neg hq]
    split <;> omega)
  rw [List.append_assoc] at key
  exact key
theorem x8 {s : Stt} (h : Af s = true) : Xv (Cx s) s.1 := by
 unfold Cx
 rw [h, cond_true]
 exact Xx s.1 0 ([], false, []) [] rfl rfl (fun b hb => by cases hb) (fun q => by omega) (fun q => by cases q)
end Go.Proofs.Ytkfoebbjncngjaa.V

