/- Plain facts, second part. No condition. -/
import Derived.Test.YtkfoebbjncngjaaQBase
namespace Go.Proofs.Ytkfoebbjncngjaa.V
open Go Go.Proofs.Ytkfoebbjncngjaa.R
set_option linter.unusedVariables false
set_option linter.unusedSimpArgs false
theorem V2 {α σ E : Type} {xs : List α} (z : α) (Inv : Nat → σ → Prop) (step : Nat → α → σ → σ) {g : Nat → Int → σ → Option E} {ok : σ → E}
  (hs : ∀ m (i : Nat) s, i < xs.length → Inv i s → g (m + 1) i s = g m ((i + 1 : Nat) : Int) (step i (xs.getD i z) s))
  (hi : ∀ i s, i < xs.length → Inv i s → Inv (i + 1) (step i (xs.getD i z) s))
  (he : ∀ m s, Inv xs.length s → g (m + 1) (xs.length : Int) s = some (ok s)) :
  ∀ (m i : Nat) s, i ≤ xs.length → xs.length - i < m → Inv i s → g m i s = some (ok (Ym step i (xs.drop i) s))
 | 0, i, s, _, hm, _ => by omega
 | m + 1, i, s, hl, hm, hI => by
  by_cases h : i < xs.length
  ·rw [hs m i s h hI, V2 z Inv step hs hi he m (i + 1) _ (by omega) (by omega) (hi i s h hI), H6 xs i z h]
   rfl
  ·have : i = xs.length := by omega
   subst this
   rw [he _ _ hI, List.drop_length]
   rfl
theorem Afe {α : Type} (c : Bool) (xs : List α) (y : α) : (Lv c xs y).length = xs.length + c.toNat := by cases c <;> simp [Lv]
def Aff (i : Nat) (s : List (List Chg) × Bool × List Chg) : Prop := i ≤ 100 ∧ s.1.length ≤ i ∧ (0 < i → s.2.1 = true) ∧ s.2.2.length ≤ i
theorem Aff.step {i : Nat} {s : List (List Chg) × Bool × List Chg} (h : Aff i s) (h1 : i < 100) (p : Pr2) : Aff (i + 1) (n0 i p s) := by
 obtain ⟨_, h2, h3, h4⟩ := h
 unfold n0
 cases hc : (i % 20 == 0)
 ·have : 0 < i := Nat.pos_of_ne_zero fun q => by subst q; cases hc
  refine ⟨by omega, by simp only [cond_false]; omega, fun _ => h3 this, ?_⟩
  simp only [cond_false, List.length_append, List.length_singleton]
  omega
 ·refine ⟨by omega, ?_, fun _ => rfl, by simp⟩
  simp only [cond_true]
  rw [Afe]
  by_cases q : 0 < i
  ·rw [h3 q]; simp; omega
  ·cases s.2.1 <;> simp <;> omega
theorem Kc (s : ByteArray) (w : Int) : (bif Cb w 1 8 then ((Ag s w).length : Int) else 0) = Cl s.size w := by
 unfold Cl
 cases hw : Cb w 1 8 with
 | false => rfl
 | true => exact G2 hw
theorem Yw (n : Nat) (w : Int) : 0 ≤ Cl n w ∧ Cl n w ≤ (n : Int) + 1 := by
 unfold Cl
 cases hw : Cb w 1 8 with
 | false => exact ⟨Int.le_refl _, by simp only [cond_false]; omega⟩
 | true =>
  obtain ⟨h1, h2⟩ := Ei hw
  simp only [cond_true]
  have hc : w = 1 ∨ w = 2 ∨ w = 3 ∨ w = 4 ∨ w = 5 ∨ w = 6 ∨ w = 7 ∨ w = 8 := by omega
  rcases hc with rfl | rfl | rfl | rfl | rfl | rfl | rfl | rfl <;> split <;> omega
theorem Aa6 {b : List Chg} (h : ∀ c ∈ b, Mk c = true) : (Rq b).length ≤ 200 * b.length := by
 induction b with
 | nil => simp [Rq]
 | cons c r ih =>
  have h1 := (S0 (h c (by simp))).2
  have h2 := ih fun c hc => h c (by simp [hc])
  have e : Rq (c :: r) = Z5 c ++ Rq r := rfl
  rw [e, List.length_append, List.length_cons]
  omega
theorem O0 (b : List Chg) : (Mn b).size ≤ 4000 := by
 unfold Mn
 cases hv : D7 b with
 | false => exact Nat.zero_le _
 | true =>
  obtain ⟨_, h2, h3⟩ := Add hv
  have := Aa6 h3
  show (strOfNums (Rq b)).size ≤ 4000
  rw [B1]
  omega
def Aic (i : Nat) (a : Int) : Prop := i ≤ 101 ∧ 0 ≤ a ∧ a ≤ 5000 * (i : Int)
theorem Aic.step {i : Nat} {a : Int} (h : Aic i a) (hi : i < 101) (b : List Chg) (w : Int) : Aic (i + 1) (a + Cl (Mn b).size w) := by
 have h1 := Yw (Mn b).size w
 have h2 := O0 b
 obtain ⟨_, h3, h4⟩ := h
 exact ⟨by omega, by omega, by omega⟩
def zOp : Opn := (false, 0, ⟨#[]⟩, ())
abbrev ScT := Int × Int × ByteArray × List ByteArray × Int × Int
def S1 (wk wl : Int) (p : Pg) : Bool := bif decide (p.2.1 < wl) then false else bif p.1 == 3 then wk != 1 else bif p.1 == 1 || p.1 == 2 then wk != 1 || wl == p.2.1 else false
def Gc (i : Int) (p : Pg) (s : ScT) : ScT :=
 bif p.1 == 1 then (1, p.2.1, s.2.2.1 ++ p.2.2.2.1, s.2.2.2.1, s.2.2.2.2.1, s.2.2.2.2.2)
 else bif p.1 == 2 then (2, p.2.1, z0, s.2.2.2.1 ++ [s.2.2.1 ++ p.2.2.2.1], i + 1, p.2.1)
 else (p.1, p.2.1, z0, s.2.2.2.1, i + 1, p.2.1)
def Fm (s : ScT) : Scd := (s.2.2.2.1, s.2.2.2.2.1, s.2.2.2.2.2, ())
def Lc (w first i : Int) (s : ScT) (x : ByteArray) : Bool := (Je x w).2 && (((Je x w).1.2.2.1 - i == first) && S1 s.1 s.2.1 (Je x w).1)
def Bl (w first : Int) : List ByteArray → Int → ScT → Scd
 | [], _, s => Fm s
 | x :: r, i, s => bif Lc w first i s x then Bl w first r (i + 1) (Gc i (Je x w).1 s) else Fm s
def seen (d : Dk) (a : Int) (k n : Nat) : List ByteArray := (List.range' k n).map fun k : Nat => Z4 d (a + (k : Int))
def Qj (d : Dk) (from_ size first life w : Int) : Scd :=
 bif Dv d && (Cb w 1 8 && (decide (0 ≤ from_) && (decide (0 ≤ size) && (decide (from_ ≤ (d.1.length : Int)) && decide (size ≤ (d.1.length : Int) - from_))))) then Bl w first (seen d from_ 0 size.toNat) 0 (0, life, z0, [], 0, life) else ([], 0, 0, ())
theorem Agz {x : ByteArray} {w : Int} {p : Pg} (h : Je x w = (p, true)) : (1 ≤ p.1 ∧ p.1 ≤ 4) ∧ (1 ≤ p.2.2.1 ∧ p.2.2.1 ≤ 1000000000) ∧ p.2.2.2.1.size ≤ 64 := by
 obtain ⟨_, _, _, h4⟩ := V1 h
 obtain ⟨k1, _, k3⟩ := Vy h4
 obtain ⟨_, w1, w2, k4⟩ := Ik h4
 exact ⟨k1, k3, by omega⟩
def V3 (i : Nat) (s : ScT) : Prop := i ≤ 200 ∧ s.2.2.1.size ≤ 64 * i ∧ s.2.2.2.1.length ≤ i
theorem V3.zero (a b c l : Int) : V3 0 (a, b, z0, [], c, l) := ⟨by omega, Nat.le_refl 0, Nat.le_refl 0⟩
theorem V3.next {i : Nat} {s : ScT} {p : Pg} (h : V3 i s) (hi : i < 200) (hp : p.2.2.2.1.size ≤ 64) : V3 (i + 1) (Gc i p s) := by
 obtain ⟨_, h2, h3⟩ := h
 unfold Gc
 cases (p.1 == 1)
 ·cases (p.1 == 2)
  ·exact ⟨by omega, Nat.zero_le _, by simp only [cond_false]; omega⟩
  ·refine ⟨by omega, Nat.zero_le _, ?_⟩
   simp only [cond_false, cond_true, List.length_append, List.length_singleton]
   omega
 ·refine ⟨by omega, ?_, by simp only [cond_true]; omega⟩
  simp only [cond_true, ByteArray.size_append]
  omega
theorem Qk (d : Dk) (a : Int) (k n : Nat) : (seen d a k n).length = n := by simp [seen]
theorem Cm {α β : Type} {x : Option α} {y : α} {f : α → Option β} {z : Option β} (h : x = some y) (k : f y = z) : x.bind f = z := by rw [h]; exact k
def Afg (w life first : Int) (b : List Chg) (L : List ByteArray) : List ByteArray := L ++ Lw (Mn b) life (first + (L.length : Int)) w
def Afh (s : Sto) : Prop := (0 ≤ s.2.2.2.1.1 ∧ s.2.2.2.1.1 ≤ 1000000000) ∧ (0 ≤ s.2.2.2.1.2.1 ∧ s.2.2.2.1.2.1 ≤ 1) ∧ (0 ≤ s.2.2.2.1.2.2.1 ∧ s.2.2.2.1.2.2.1 ≤ 1000000000) ∧ s.2.2.2.2.2.2.1.1.length ≤ 1000000
instance (s : Sto) : Decidable (Afh s) := by unfold Afh; infer_instance
theorem Ag0 (b : List Chg) (life f w : Int) : (Lw (Mn b) life f w).length ≤ 4001 := by
 unfold Lw
 cases hw : Cb w 1 8 with
 | false => simp
 | true =>
  cases hc : (true && (Cb life 1 60000 && (decide (1 ≤ f) && decide (f ≤ 1000000000 - Cl (Mn b).size w + 1)))) with
  | false => simp
  | true =>
   simp only [cond_true]
   rw [Jf, List.length_map, List.length_range']
   have h1 := Kc (Mn b) w
   rw [hw, cond_true] at h1
   have h2 := (Yw (Mn b).size w).2
   have h3 := O0 b
   omega
def MvI (i : Nat) (L : List ByteArray) : Prop := i ≤ 101 ∧ L.length ≤ 1 + 4001 * i
theorem MvI.step {i : Nat} {L : List ByteArray} (h : MvI i L) (hi : i < 101) (w life first : Int) (b : List Chg) : MvI (i + 1) (Afg w life first b L) := by
 obtain ⟨h1, h2⟩ := h
 refine ⟨by omega, ?_⟩
 unfold Afg
 have := Ag0 b life (first + (L.length : Int)) w
 rw [List.length_append]
 omega
end Go.Proofs.Ytkfoebbjncngjaa.V

