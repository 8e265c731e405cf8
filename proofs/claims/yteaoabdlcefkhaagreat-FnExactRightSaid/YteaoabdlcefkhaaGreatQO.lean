/- A disk is opened. No condition. -/
import Derived.Test.YteaoabdlcefkhaaGreatQA
namespace Go.Proofs.YteaoabdlcefkhaaGreat.V
open Go Go.Proofs.YteaoabdlcefkhaaGreat.R
set_option linter.unusedVariables false
set_option linter.unusedSimpArgs false
def A4s (r : Rt) : Prop := (0 ≤ r.1 ∧ r.1 ≤ 1000000000) ∧ (0 ≤ r.2.1 ∧ r.2.1 ≤ 1) ∧ (1 ≤ r.2.2.1 ∧ r.2.2.1 ≤ 999999000) ∧ (0 ≤ r.2.2.2.1 ∧ r.2.2.2.1 ≤ 60000)
theorem Arb {x : ByteArray} {w : Int} {p : Pg} (h : Cw x w = (p, true)) : 1 ≤ p.2.1 ∧ p.2.1 ≤ 60000 := by
 obtain ⟨_, _, _, h4⟩ := R4 h
 unfold Jh at h4
 obtain ⟨_, h4⟩ := Cj h4
 obtain ⟨_, h4⟩ := Cj h4
 exact G4 (Cj h4).1
theorem Ahq {s : ByteArray} {w a : Int} {best : Rt} (h : A4s best) : A4s (F5 s w a best) := by
 unfold F5
 cases hc : (Cw s w).2 && ((Cw s w).1.1 == 4) && decide ((Cw s w).1.2.2.2.1.size = 5) && ((Cw s w).1.2.2.1 % 2 == a) && Me (J9 (Cw s w).1) && decide ((Cw s w).1.2.2.1 > best.1) with
 | false => exact h
 | true =>
  simp only [Bool.and_eq_true] at hc
  obtain ⟨⟨⟨⟨⟨h1, _⟩, _⟩, _⟩, h5⟩, _⟩ := hc
  have hp : Cw s w = ((Cw s w).1, true) := by rw [← h1]
  obtain ⟨_, hn, _⟩ := Ako hp
  have hl := Arb hp
  obtain ⟨r1, r2⟩ := Cj h5
  have r1 := G4 r1
  have r2 := G4 r2
  simp only [cond_true]
  exact ⟨⟨by show 0 ≤ (Cw s w).1.2.2.1; omega, hn.2⟩, r1, r2, ⟨by show 0 ≤ (Cw s w).1.2.1; omega, hl.2⟩⟩
theorem Ahr {d : Dk} {w : Int} (h : Bp d = true) (hw : Eo w 1 8 = true) : A4s (A7 d w) := by
 unfold A7
 rw [h, hw]
 exact Ahq (Ahq ⟨⟨by decide, by decide⟩, ⟨by decide, by decide⟩, ⟨by decide, by decide⟩, by decide, by decide⟩)
theorem Arc (w first : Int) : ∀ (l : List ByteArray) (i : Int) (st : ScT), 0 ≤ i → (0 ≤ st.2.2.2.2.1 ∧ st.2.2.2.2.1 ≤ i) → (0 ≤ st.2.2.2.2.2 ∧ st.2.2.2.2.2 ≤ 60000) →
  (0 ≤ (Mk w first l i st).2.1 ∧ (Mk w first l i st).2.1 ≤ i + l.length) ∧ (0 ≤ (Mk w first l i st).2.2.1 ∧ (Mk w first l i st).2.2.1 ≤ 60000)
 | [], i, st, h0, h1, h2 => ⟨⟨h1.1, by show st.2.2.2.2.1 ≤ i + ((0 : Nat) : Int); omega⟩, h2⟩
 | x :: l, i, st, h0, h1, h2 => by
  unfold Mk
  cases hc : Afi w first i st x with
  | false => exact ⟨⟨h1.1, by show st.2.2.2.2.1 ≤ i + ((l.length + 1 : Nat) : Int); omega⟩, h2⟩
  | true =>
   simp only [cond_true]
   unfold Afi at hc
   have hp : Cw x w = ((Cw x w).1, true) := by rw [← (Cj hc).1]
   have hl := Arb hp
   have := Arc w first l (i + 1) (Kr i (Cw x w).1 st) (by omega) (by
    unfold Kr
    cases (Cw x w).1.1 == 1 <;> cases (Cw x w).1.1 == 2 <;> simp only [cond_true, cond_false] <;> omega) (by
    unfold Kr
    cases (Cw x w).1.1 == 1 <;> cases (Cw x w).1.1 == 2 <;> simp only [cond_true, cond_false] <;> omega)
   refine ⟨⟨this.1.1, ?_⟩, this.2⟩
   have h3 := this.1.2
   simp only [List.length_cons]
   omega
theorem Avm (d : Dk) (f n first life w : Int) (hn : 0 ≤ n) (hl : 0 ≤ life ∧ life ≤ 60000) : (0 ≤ (Tp d f n first life w).2.1 ∧ (Tp d f n first life w).2.1 ≤ n) ∧ (0 ≤ (Tp d f n first life w).2.2.1 ∧ (Tp d f n first life w).2.2.1 ≤ 60000) := by
 unfold Tp
 cases hc : Bp d && (Eo w 1 8 && (decide (0 ≤ f) && (decide (0 ≤ n) && (decide (f ≤ (d.1.length : Int)) && decide (n ≤ (d.1.length : Int) - f))))) with
 | false => exact ⟨⟨Int.le_refl 0, hn⟩, Int.le_refl 0, show (0 : Int) ≤ 60000 by omega⟩
 | true =>
  simp only [cond_true]
  have := Arc w first (seen d f 0 n.toNat) 0 (0, life, z0, [], 0, life) (by omega) ⟨by show (0 : Int) ≤ 0; omega, by show (0 : Int) ≤ 0; omega⟩ hl
  rw [Avf] at this
  exact ⟨⟨this.1.1, by have := this.1.2; omega⟩, this.2⟩
def O3 : List ByteArray → Stt → Option Stt
 | [], s => some s
 | e :: r, s => bif (Kb e).2 then (bif (Nn s (Kb e).1).2 == 0 then O3 r (Nn s (Kb e).1).1 else none) else none
theorem Rh : ∀ {l : List ByteArray} {s st : Stt}, Aq s = true → O3 l s = some st → Aq st = true
 | [], s, st, h, e => by cases e; exact h
 | x :: r, s, st, h, e => by
  unfold O3 at e
  cases h1 : (Kb x).2 with
  | false => rw [h1] at e; cases e
  | true =>
   rw [h1] at e
   simp only [cond_true] at e
   cases h2 : (Nn s (Kb x).1).2 == 0 with
   | false => rw [h2] at e; cases e
   | true =>
    rw [h2] at e
    exact Rh (Avj s (Kb x).1) e
def Zq (d : Dk) (w : Int) (r : Rt) (x : Scd) (st : Stt) : Don :=
 bif decide (x.2.2.1 + 1 > 60000) then Ave 3 else bif decide (R5 st w > An d.1.length - 1) then Ave 4 else
 bif decide (x.2.1 < An d.1.length) then (0, (w, nI d.1.length, x.2.2.1 + 1, r, x.2.1 + 1, 0, st, ()), [Afh (Bz r.2.1 d.1.length + x.2.1) (D1 (3, x.2.2.1 + 1, r.2.2.1 + x.2.1, z0, ()) w), Ay0], ())
 else Ahn (w, nI d.1.length, x.2.2.1 + 1, r, x.2.1, 0, st, ())
def Hz (d : Dk) (w : Int) : Scd := Tp d (Bz (A7 d w).2.1 d.1.length) (An d.1.length) (A7 d w).2.2.1 (A7 d w).2.2.2.1 w
def Ac3 (d : Dk) (w : Int) : Don :=
 bif !Bp d then Ave 1 else bif !Eo w 1 8 then Ave 1 else
 match O3 (Hz d w).1 Ys with
 | none => Ave 2
 | some st => Zq d w (A7 d w) (Hz d w) st
theorem Ay6 {d : Dk} {w : Int} {r : Rt} {x : Scd} {st : Stt} (h : x.2.2.1 + 1 > 60000) : Zq d w r x st = Ave 3 := by unfold Zq; rw [decide_eq_true h]; rfl
theorem Ay7 {d : Dk} {w : Int} {r : Rt} {x : Scd} {st : Stt} (h : ¬ x.2.2.1 + 1 > 60000) (h2 : R5 st w > An d.1.length - 1) : Zq d w r x st = Ave 4 := by unfold Zq; rw [decide_eq_false h, decide_eq_true h2]; rfl
theorem Ay8 {d : Dk} {w : Int} {r : Rt} {x : Scd} {st : Stt} (h : ¬ x.2.2.1 + 1 > 60000) (h2 : ¬ R5 st w > An d.1.length - 1) (h3 : x.2.1 < An d.1.length) : Zq d w r x st = (0, (w, nI d.1.length, x.2.2.1 + 1, r, x.2.1 + 1, 0, st, ()), [Afh (Bz r.2.1 d.1.length + x.2.1) (D1 (3, x.2.2.1 + 1, r.2.2.1 + x.2.1, z0, ()) w), Ay0], ()) := by unfold Zq; rw [decide_eq_false h, decide_eq_false h2, decide_eq_true h3]; rfl
theorem Ay9 {d : Dk} {w : Int} {r : Rt} {x : Scd} {st : Stt} (h : ¬ x.2.2.1 + 1 > 60000) (h2 : ¬ R5 st w > An d.1.length - 1) (h3 : ¬ x.2.1 < An d.1.length) : Zq d w r x st = Ahn (w, nI d.1.length, x.2.2.1 + 1, r, x.2.1, 0, st, ()) := by unfold Zq; rw [decide_eq_false h, decide_eq_false h2, decide_eq_false h3]; rfl
theorem Avn {s : Sto} (h : Aq s.2.2.2.2.2.2.1 = true) : Aq (Ahn s).2.1.2.2.2.2.2.2.1 = true := by
 unfold Ahn Ac2
 cases decide (s.2.2.2.1.1 + 1 > 1000000000) with
 | true => rfl
 | false =>
  cases decide (s.2.2.2.1.2.2.1 + An s.2.1 > 999999000) with
  | true => rfl
  | false => exact h
theorem Avo {d : Dk} {w : Int} {r : Rt} {x : Scd} {st : Stt} (h : Aq st = true) : Aq (Zq d w r x st).2.1.2.2.2.2.2.2.1 = true := by
 unfold Zq
 cases decide (x.2.2.1 + 1 > 60000) with
 | true => rfl
 | false =>
  cases decide (R5 st w > An d.1.length - 1) with
  | true => rfl
  | false =>
   simp only [cond_false]
   cases decide (x.2.1 < An d.1.length) with
   | true => exact h
   | false => exact Avn h
theorem Axo (d : Dk) (w : Int) : Aq (Ac3 d w).2.1.2.2.2.2.2.2.1 = true := by
 unfold Ac3
 cases Bp d with
 | false => rfl
 | true =>
  cases Eo w 1 8 with
  | false => rfl
  | true =>
   simp only [Bool.not_true, cond_false]
   cases ho : O3 (Hz d w).1 Ys with
   | none => rfl
   | some st => exact Avo (Rh rfl ho)
def Ew (w : Wld) : Stt × Int := bif !D9 w then (Ys, 1) else ((Ac3 (w.2.1.1, [], ()) w.1).2.1.2.2.2.2.2.2.1, (Ac3 (w.2.1.1, [], ()) w.1).1)
def P5 (a b : Stt) : Bool := eqL (fun x y : Pr2 => Mc Ak x y) a.1 b.1
def Asq (w : Wld) : Bool := bif (Ew w).2 != 0 then false else w.2.2.2.2.1.any fun p => P5 p (Ew w).1
theorem Ahs {w : Wld} (h : ((Ew w).2 != 0) = false) : D9 w = true := by
 cases hv : D9 w with
 | true => rfl
 | false =>
  unfold Ew at h
  rw [hv] at h
  cases h
theorem Amm {w : Wld} (h : D9 w = true) {i : Nat} (hi : i < w.2.2.2.2.1.length) : Aq (w.2.2.2.2.1.getD i Ys) = true := by
 unfold D9 at h
 obtain ⟨_, h⟩ := Cj h
 obtain ⟨_, h⟩ := Cj h
 obtain ⟨_, h⟩ := Cj h
 obtain ⟨_, h⟩ := Cj h
 obtain ⟨_, h⟩ := Cj h
 exact List.all_eq_true.1 (Cj h).1 i (List.mem_range'_1.2 ⟨Nat.zero_le _, by omega⟩)
theorem Amn {α E : Type} {xs : List α} (z : α) (p : α → Bool) {g : Nat → Int → Option E} {ok bad : E}
  (hs : ∀ m (i : Nat), i < xs.length → g (m + 1) i = bif p (xs.getD i z) then some bad else g m ((i + 1 : Nat) : Int)) (he : ∀ m, g (m + 1) (xs.length : Int) = some ok) :
  ∀ (m i : Nat), i ≤ xs.length → xs.length - i < m → g m i = some (bif (xs.drop i).any p then bad else ok)
 | 0, i, hi, hm => by omega
 | m + 1, i, hi, hm => by
  by_cases h : i < xs.length
  ·rw [hs m i h, Iw xs i z h, List.any_cons]
   cases p (xs.getD i z) with
   | true => rfl
   | false => rw [cond_false, Bool.false_or, Amn z p hs he m (i + 1) (by omega) (by omega)]
  ·have : i = xs.length := by omega
   subst this
   rw [he, List.drop_length]
   rfl
theorem Afk {E : Type} {xs : List ByteArray} {g : Nat → Int → List Pr2 → Option E} {ok : List Pr2 → E} {bad : E}
  (hs : ∀ m (i : Nat) r, i < xs.length → g (m + 1) i r = bif !(Kb (xs.getD i z0)).2 then some bad else bif (Nn (r, ()) (Kb (xs.getD i z0)).1).2 != 0 then some bad else g m ((i + 1 : Nat) : Int) (Nn (r, ()) (Kb (xs.getD i z0)).1).1.1)
  (he : ∀ m r, g (m + 1) (xs.length : Int) r = some (ok r)) :
  ∀ (m i : Nat) (r : List Pr2), i ≤ xs.length → xs.length - i < m → g m i r = some (match O3 (xs.drop i) (r, ()) with
   | some st => ok st.1
   | none => bad)
 | 0, i, r, _, hm => by omega
 | m + 1, i, r, hl, hm => by
  by_cases h : i < xs.length
  ·rw [hs m i r h, Iw xs i z0 h, Afk hs he m (i + 1) _ (by omega) (by omega)]
   simp only [O3]
   cases (Kb (xs.getD i z0)).2 with
   | false => rfl
   | true =>
    simp only [Bool.not_true, cond_false, cond_true]
    by_cases hc : (Nn (r, ()) (Kb (xs.getD i z0)).1).2 = 0
    ·rw [hc]; rfl
    ·rw [show ((Nn (r, ()) (Kb (xs.getD i z0)).1).2 != 0) = true from bne_iff_ne.2 hc, show ((Nn (r, ()) (Kb (xs.getD i z0)).1).2 == 0) = false from beq_eq_false_iff_ne.2 hc]
     rfl
  ·have : i = xs.length := by omega
   subst this
   rw [he, List.drop_length]
   rfl
def Aza (es : List ByteArray) : Stt × Bool := match O3 es Ys with
 | some st => (st, true)
 | none => (Ys, false)
end Go.Proofs.YteaoabdlcefkhaaGreat.V

