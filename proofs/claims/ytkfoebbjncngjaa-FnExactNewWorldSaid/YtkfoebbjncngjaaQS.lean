/- Plain facts, second part. No condition. -/
import Derived.Test.YtkfoebbjncngjaaQBase
namespace Go.Proofs.Ytkfoebbjncngjaa.V
open Go Go.Proofs.Ytkfoebbjncngjaa.R
set_option linter.unusedVariables false
set_option linter.unusedSimpArgs false
theorem y9 {α : Type} (c : Bool) (xs : List α) (y : α) : (Jv c xs y).length = xs.length + c.toNat := by cases c <;> simp [Jv]
def z1 (i : Nat) (s : List (List Chg) × Bool × List Chg) : Prop := i ≤ 100 ∧ s.1.length ≤ i ∧ (0 < i → s.2.1 = true) ∧ s.2.2.length ≤ i
theorem z1.step {i : Nat} {s : List (List Chg) × Bool × List Chg} (h : z1 i s) (h1 : i < 100) (p : Pr2) : z1 (i + 1) (X5 i p s) := by
 obtain ⟨_, h2, h3, h4⟩ := h
 unfold X5
 cases hc : (i % 20 == 0)
 ·have : 0 < i := Nat.pos_of_ne_zero fun q => by subst q; cases hc
  refine ⟨by omega, by simp only [cond_false]; omega, fun _ => h3 this, ?_⟩
  simp only [cond_false, List.length_append, List.length_singleton]
  omega
 ·refine ⟨by omega, ?_, fun _ => rfl, by simp⟩
  simp only [cond_true]
  rw [y9]
  by_cases q : 0 < i
  ·rw [h3 q]; simp; omega
  ·cases s.2.1 <;> simp <;> omega
theorem z2 (s : ByteArray) (w : Int) : (bif J0 w 1 8 then ((Wt s w).length : Int) else 0) = Ko s.size w := by
 unfold Ko
 cases hw : J0 w 1 8 with
 | false => rfl
 | true => exact Zc hw
theorem Vp (n : Nat) (w : Int) : 0 ≤ Ko n w ∧ Ko n w ≤ (n : Int) + 1 := by
 unfold Ko
 cases hw : J0 w 1 8 with
 | false => exact ⟨Int.le_refl _, by simp only [cond_false]; omega⟩
 | true =>
  obtain ⟨h1, h2⟩ := Vk hw
  simp only [cond_true]
  have hc : w = 1 ∨ w = 2 ∨ w = 3 ∨ w = 4 ∨ w = 5 ∨ w = 6 ∨ w = 7 ∨ w = 8 := by omega
  rcases hc with rfl | rfl | rfl | rfl | rfl | rfl | rfl | rfl <;> split <;> omega
theorem Zd {b : List Chg} (h : ∀ c ∈ b, Qn c = true) : (Pl b).length ≤ 200 * b.length := by
 induction b with
 | nil => simp [Pl]
 | cons c r ih =>
  have h1 := (Qp (h c (by simp))).2
  have h2 := ih fun c hc => h c (by simp [hc])
  have e : Pl (c :: r) = i6 c ++ Pl r := rfl
  rw [e, List.length_append, List.length_cons]
  omega
theorem To (b : List Chg) : (N0 b).size ≤ 4000 := by
 unfold N0
 cases hv : G4 b with
 | false => exact Nat.zero_le _
 | true =>
  obtain ⟨_, h2, h3⟩ := i9 hv
  have := Zd h3
  show (strOfNums (Pl b)).size ≤ 4000
  rw [Tn]
  omega
def Acb (i : Nat) (a : Int) : Prop := i ≤ 101 ∧ 0 ≤ a ∧ a ≤ 5000 * (i : Int)
theorem Acb.step {i : Nat} {a : Int} (h : Acb i a) (hi : i < 101) (b : List Chg) (w : Int) : Acb (i + 1) (a + Ko (N0 b).size w) := by
 have h1 := Vp (N0 b).size w
 have h2 := To b
 obtain ⟨_, h3, h4⟩ := h
 exact ⟨by omega, by omega, by omega⟩
abbrev ScT := Int × Int × ByteArray × List ByteArray × Int × Int
def seen (d : Dk) (a : Int) (k n : Nat) : List ByteArray := (List.range' k n).map fun k : Nat => Ade d (a + (k : Int))
def Abn (i : Nat) (s : ScT) : Prop := i ≤ 200 ∧ s.2.2.1.size ≤ 64 * i ∧ s.2.2.2.1.length ≤ i
theorem Abn.zero (a b c l : Int) : Abn 0 (a, b, z0, [], c, l) := ⟨by omega, Nat.le_refl 0, Nat.le_refl 0⟩
def z6 (w life first : Int) (b : List Chg) (L : List ByteArray) : List ByteArray := L ++ Aca (N0 b) life (first + (L.length : Int)) w
def z7 (s : Sto) : Prop := (0 ≤ s.2.2.2.1.1 ∧ s.2.2.2.1.1 ≤ 1000000000) ∧ (0 ≤ s.2.2.2.1.2.1 ∧ s.2.2.2.1.2.1 ≤ 1) ∧ (0 ≤ s.2.2.2.1.2.2.1 ∧ s.2.2.2.1.2.2.1 ≤ 1000000000) ∧ s.2.2.2.2.2.2.1.1.length ≤ 1000000
instance (s : Sto) : Decidable (z7 s) := by unfold z7; infer_instance
theorem Aa3 (b : List Chg) (life f w : Int) : (Aca (N0 b) life f w).length ≤ 4001 := by
 unfold Aca
 cases hw : J0 w 1 8 with
 | false => simp
 | true =>
  cases hc : (true && (J0 life 1 60000 && (decide (1 ≤ f) && decide (f ≤ 1000000000 - Ko (N0 b).size w + 1)))) with
  | false => simp
  | true =>
   simp only [cond_true]
   rw [Qq, List.length_map, List.length_range']
   have h1 := z2 (N0 b) w
   rw [hw, cond_true] at h1
   have h2 := (Vp (N0 b).size w).2
   have h3 := To b
   omega
def MvI (i : Nat) (L : List ByteArray) : Prop := i ≤ 101 ∧ L.length ≤ 1 + 4001 * i
theorem MvI.step {i : Nat} {L : List ByteArray} (h : MvI i L) (hi : i < 101) (w life first : Int) (b : List Chg) : MvI (i + 1) (z6 w life first b L) := by
 obtain ⟨h1, h2⟩ := h
 refine ⟨by omega, ?_⟩
 unfold z6
 have := Aa3 b life (first + (L.length : Int)) w
 rw [List.length_append]
 omega
end Go.Proofs.Ytkfoebbjncngjaa.V

