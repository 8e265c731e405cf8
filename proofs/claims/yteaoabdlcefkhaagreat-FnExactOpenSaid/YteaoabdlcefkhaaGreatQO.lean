/- A disk is opened. No condition. -/
import Derived.Test.YteaoabdlcefkhaaGreatQA
namespace Go.Proofs.YteaoabdlcefkhaaGreat.V
open Go Go.Proofs.YteaoabdlcefkhaaGreat.R
set_option linter.unusedVariables false
set_option linter.unusedSimpArgs false
def A2r (r : Rt) : Prop := (0 ≤ r.1 ∧ r.1 ≤ 1000000000) ∧ (0 ≤ r.2.1 ∧ r.2.1 ≤ 1) ∧ (1 ≤ r.2.2.1 ∧ r.2.2.1 ≤ 999999000) ∧ (0 ≤ r.2.2.2.1 ∧ r.2.2.2.1 ≤ 60000)
theorem Aoq {x : ByteArray} {w : Int} {p : Pg} (h : Cm x w = (p, true)) : 1 ≤ p.2.1 ∧ p.2.1 ≤ 60000 := by
 obtain ⟨_, _, _, h4⟩ := Qo h
 unfold Ig at h4
 obtain ⟨_, h4⟩ := Cj h4
 obtain ⟨_, h4⟩ := Cj h4
 exact Hb (Cj h4).1
theorem Af5 {s : ByteArray} {w a : Int} {best : Rt} (h : A2r best) : A2r (Fg s w a best) := by
 unfold Fg
 cases hc : (Cm s w).2 && ((Cm s w).1.1 == 4) && decide ((Cm s w).1.2.2.2.1.size = 5) && ((Cm s w).1.2.2.1 % 2 == a) && L9 (Jp (Cm s w).1) && decide ((Cm s w).1.2.2.1 > best.1) with
 | false => exact h
 | true =>
  simp only [Bool.and_eq_true] at hc
  obtain ⟨⟨⟨⟨⟨h1, _⟩, _⟩, _⟩, h5⟩, _⟩ := hc
  have hp : Cm s w = ((Cm s w).1, true) := by rw [← h1]
  obtain ⟨_, hn, _⟩ := Aii hp
  have hl := Aoq hp
  obtain ⟨r1, r2⟩ := Cj h5
  have r1 := Hb r1
  have r2 := Hb r2
  simp only [cond_true]
  exact ⟨⟨by show 0 ≤ (Cm s w).1.2.2.1; omega, hn.2⟩, r1, r2, ⟨by show 0 ≤ (Cm s w).1.2.1; omega, hl.2⟩⟩
theorem Af6 {d : Dk} {w : Int} (h : B8 d = true) (hw : E9 w 1 8 = true) : A2r (A6 d w) := by
 unfold A6
 rw [h, hw]
 exact Af5 (Af5 ⟨⟨by decide, by decide⟩, ⟨by decide, by decide⟩, ⟨by decide, by decide⟩, by decide, by decide⟩)
theorem Aor (w first : Int) : ∀ (l : List ByteArray) (i : Int) (st : ScT), 0 ≤ i → (0 ≤ st.2.2.2.2.1 ∧ st.2.2.2.2.1 ≤ i) → (0 ≤ st.2.2.2.2.2 ∧ st.2.2.2.2.2 ≤ 60000) →
  (0 ≤ (Lh w first l i st).2.1 ∧ (Lh w first l i st).2.1 ≤ i + l.length) ∧ (0 ≤ (Lh w first l i st).2.2.1 ∧ (Lh w first l i st).2.2.1 ≤ 60000)
 | [], i, st, h0, h1, h2 => ⟨⟨h1.1, by show st.2.2.2.2.1 ≤ i + ((0 : Nat) : Int); omega⟩, h2⟩
 | x :: l, i, st, h0, h1, h2 => by
  unfold Lh
  cases hc : Adu w first i st x with
  | false => exact ⟨⟨h1.1, by show st.2.2.2.2.1 ≤ i + ((l.length + 1 : Nat) : Int); omega⟩, h2⟩
  | true =>
   simp only [cond_true]
   unfold Adu at hc
   have hp : Cm x w = ((Cm x w).1, true) := by rw [← (Cj hc).1]
   have hl := Aoq hp
   have := Aor w first l (i + 1) (Jw i (Cm x w).1 st) (by omega) (by
    unfold Jw
    cases (Cm x w).1.1 == 1 <;> cases (Cm x w).1.1 == 2 <;> simp only [cond_true, cond_false] <;> omega) (by
    unfold Jw
    cases (Cm x w).1.1 == 1 <;> cases (Cm x w).1.1 == 2 <;> simp only [cond_true, cond_false] <;> omega)
   refine ⟨⟨this.1.1, ?_⟩, this.2⟩
   have h3 := this.1.2
   simp only [List.length_cons]
   omega
theorem As8 (d : Dk) (f n first life w : Int) (hn : 0 ≤ n) (hl : 0 ≤ life ∧ life ≤ 60000) : (0 ≤ (Sa d f n first life w).2.1 ∧ (Sa d f n first life w).2.1 ≤ n) ∧ (0 ≤ (Sa d f n first life w).2.2.1 ∧ (Sa d f n first life w).2.2.1 ≤ 60000) := by
 unfold Sa
 cases hc : B8 d && (E9 w 1 8 && (decide (0 ≤ f) && (decide (0 ≤ n) && (decide (f ≤ (d.1.length : Int)) && decide (n ≤ (d.1.length : Int) - f))))) with
 | false => exact ⟨⟨Int.le_refl 0, hn⟩, Int.le_refl 0, show (0 : Int) ≤ 60000 by omega⟩
 | true =>
  simp only [cond_true]
  have := Aor w first (seen d f 0 n.toNat) 0 (0, life, z0, [], 0, life) (by omega) ⟨by show (0 : Int) ≤ 0; omega, by show (0 : Int) ≤ 0; omega⟩ hl
  rw [Asz] at this
  exact ⟨⟨this.1.1, by have := this.1.2; omega⟩, this.2⟩
def Ns : List ByteArray → Stt → Option Stt
 | [], s => some s
 | e :: r, s => bif (Jr e).2 then (bif (Mc s (Jr e).1).2 == 0 then Ns r (Mc s (Jr e).1).1 else none) else none
theorem P2 : ∀ {l : List ByteArray} {s st : Stt}, Bf s = true → Ns l s = some st → Bf st = true
 | [], s, st, h, e => by cases e; exact h
 | x :: r, s, st, h, e => by
  unfold Ns at e
  cases h1 : (Jr x).2 with
  | false => rw [h1] at e; cases e
  | true =>
   rw [h1] at e
   simp only [cond_true] at e
   cases h2 : (Mc s (Jr x).1).2 == 0 with
   | false => rw [h2] at e; cases e
   | true =>
    rw [h2] at e
    exact P2 (As5 s (Jr x).1) e
def X8 (d : Dk) (w : Int) (r : Rt) (x : Scd) (st : Stt) : Don :=
 bif decide (x.2.2.1 + 1 > 60000) then Asy 3 else bif decide (R9 st w > An d.1.length - 1) then Asy 4 else
 bif decide (x.2.1 < An d.1.length) then (0, (w, nI d.1.length, x.2.2.1 + 1, r, x.2.1 + 1, 0, st, ()), [Adt (Bv r.2.1 d.1.length + x.2.1) (Db (3, x.2.2.1 + 1, r.2.2.1 + x.2.1, z0, ()) w), Awn], ())
 else Af2 (w, nI d.1.length, x.2.2.1 + 1, r, x.2.1, 0, st, ())
def Hd (d : Dk) (w : Int) : Scd := Sa d (Bv (A6 d w).2.1 d.1.length) (An d.1.length) (A6 d w).2.2.1 (A6 d w).2.2.2.1 w
def Aos (d : Dk) (w : Int) : Don :=
 bif !B8 d then Asy 1 else bif !E9 w 1 8 then Asy 1 else
 match Ns (Hd d w).1 zSs with
 | none => Asy 2
 | some st => X8 d w (A6 d w) (Hd d w) st
theorem Awt {d : Dk} {w : Int} {r : Rt} {x : Scd} {st : Stt} (h : x.2.2.1 + 1 > 60000) : X8 d w r x st = Asy 3 := by unfold X8; rw [decide_eq_true h]; rfl
theorem Awu {d : Dk} {w : Int} {r : Rt} {x : Scd} {st : Stt} (h : ¬ x.2.2.1 + 1 > 60000) (h2 : R9 st w > An d.1.length - 1) : X8 d w r x st = Asy 4 := by unfold X8; rw [decide_eq_false h, decide_eq_true h2]; rfl
theorem Awv {d : Dk} {w : Int} {r : Rt} {x : Scd} {st : Stt} (h : ¬ x.2.2.1 + 1 > 60000) (h2 : ¬ R9 st w > An d.1.length - 1) (h3 : x.2.1 < An d.1.length) : X8 d w r x st = (0, (w, nI d.1.length, x.2.2.1 + 1, r, x.2.1 + 1, 0, st, ()), [Adt (Bv r.2.1 d.1.length + x.2.1) (Db (3, x.2.2.1 + 1, r.2.2.1 + x.2.1, z0, ()) w), Awn], ()) := by unfold X8; rw [decide_eq_false h, decide_eq_false h2, decide_eq_true h3]; rfl
theorem Aww {d : Dk} {w : Int} {r : Rt} {x : Scd} {st : Stt} (h : ¬ x.2.2.1 + 1 > 60000) (h2 : ¬ R9 st w > An d.1.length - 1) (h3 : ¬ x.2.1 < An d.1.length) : X8 d w r x st = Af2 (w, nI d.1.length, x.2.2.1 + 1, r, x.2.1, 0, st, ()) := by unfold X8; rw [decide_eq_false h, decide_eq_false h2, decide_eq_false h3]; rfl
theorem Avb {d : Dk} {w : Int} {r : Rt} {x : Scd} {st : Stt} (h : Bf st = true) : Ha A08 (X8 d w r x st) = true := by
 unfold X8
 cases decide (x.2.2.1 + 1 > 60000) with
 | true => rfl
 | false =>
  cases decide (R9 st w > An d.1.length - 1) with
  | true => rfl
  | false =>
   simp only [cond_false]
   cases decide (x.2.1 < An d.1.length) with
   | true =>
    refine Aok (Aj7 h) (As1 (show 2 ≤ 1073741824 by omega) fun o ho => ?_)
    simp only [List.mem_cons, List.not_mem_nil, or_false] at ho
    rcases ho with rfl | rfl
    ·exact V0 _ _
    ·exact Nat.zero_le _
   | false => exact Au8 (Aj7 h)
theorem Ax2 (d : Dk) (w : Int) : Ha A08 (Aos d w) = true := by
 unfold Aos
 cases B8 d with
 | false => rfl
 | true =>
  cases E9 w 1 8 with
  | false => rfl
  | true =>
   simp only [Bool.not_true, cond_false]
   cases ho : Ns (Hd d w).1 zSs with
   | none => rfl
   | some st => exact Avb (P2 rfl ho)
theorem Adw {E : Type} {xs : List ByteArray} {g : Nat → Int → List Pr2 → Option E} {ok : List Pr2 → E} {bad : E}
  (hs : ∀ m (i : Nat) r, i < xs.length → g (m + 1) i r = bif !(Jr (xs.getD i z0)).2 then some bad else bif (Mc (r, ()) (Jr (xs.getD i z0)).1).2 != 0 then some bad else g m ((i + 1 : Nat) : Int) (Mc (r, ()) (Jr (xs.getD i z0)).1).1.1)
  (he : ∀ m r, g (m + 1) (xs.length : Int) r = some (ok r)) :
  ∀ (m i : Nat) (r : List Pr2), i ≤ xs.length → xs.length - i < m → g m i r = some (match Ns (xs.drop i) (r, ()) with
   | some st => ok st.1
   | none => bad)
 | 0, i, r, _, hm => by omega
 | m + 1, i, r, hl, hm => by
  by_cases h : i < xs.length
  ·rw [hs m i r h, Ih xs i z0 h, Adw hs he m (i + 1) _ (by omega) (by omega)]
   simp only [Ns]
   cases (Jr (xs.getD i z0)).2 with
   | false => rfl
   | true =>
    simp only [Bool.not_true, cond_false, cond_true]
    by_cases hc : (Mc (r, ()) (Jr (xs.getD i z0)).1).2 = 0
    ·rw [hc]; rfl
    ·rw [show ((Mc (r, ()) (Jr (xs.getD i z0)).1).2 != 0) = true from bne_iff_ne.2 hc, show ((Mc (r, ()) (Jr (xs.getD i z0)).1).2 == 0) = false from beq_eq_false_iff_ne.2 hc]
     rfl
  ·have : i = xs.length := by omega
   subst this
   rw [he, List.drop_length]
   rfl
def Awx (es : List ByteArray) : Stt × Bool := match Ns es zSs with
 | some st => (st, true)
 | none => (zSs, false)
end Go.Proofs.YteaoabdlcefkhaaGreat.V

