/- Plain facts, second part. No condition. -/
import Derived.Test.YtkfoebbjncngjaaQBase
namespace Go.Proofs.Ytkfoebbjncngjaa.V
open Go Go.Proofs.Ytkfoebbjncngjaa.R
set_option linter.unusedVariables false
set_option linter.unusedSimpArgs false
theorem j4 {α : Type} (c : Bool) (xs : List α) (y : α) : (It c xs y).length = xs.length + c.toNat := by cases c <;> simp [It]
def j5 (i : Nat) (s : List (List Chg) × Bool × List Chg) : Prop := i ≤ 100 ∧ s.1.length ≤ i ∧ (0 < i → s.2.1 = true) ∧ s.2.2.length ≤ i
theorem j5.step {i : Nat} {s : List (List Chg) × Bool × List Chg} (h : j5 i s) (h1 : i < 100) (p : Pr2) : j5 (i + 1) (V5 i p s) := by
 obtain ⟨_, h2, h3, h4⟩ := h
 unfold V5
 cases hc : (i % 20 == 0)
 ·have : 0 < i := Nat.pos_of_ne_zero fun q => by subst q; cases hc
  refine ⟨by omega, by simp only [cond_false]; omega, fun _ => h3 this, ?_⟩
  simp only [cond_false, List.length_append, List.length_singleton]
  omega
 ·refine ⟨by omega, ?_, fun _ => rfl, by simp⟩
  simp only [cond_true]
  rw [j4]
  by_cases q : 0 < i
  ·rw [h3 q]; simp; omega
  ·cases s.2.1 <;> simp <;> omega
theorem j6 (s : ByteArray) (w : Int) : (bif Of w 1 8 then ((Up s w).length : Int) else 0) = Jl s.size w := by
 unfold Jl
 cases hw : Of w 1 8 with
 | false => rfl
 | true => exact Xe hw
theorem Td (n : Nat) (w : Int) : 0 ≤ Jl n w ∧ Jl n w ≤ (n : Int) + 1 := by
 unfold Jl
 cases hw : Of w 1 8 with
 | false => exact ⟨Int.le_refl _, by simp only [cond_false]; omega⟩
 | true =>
  obtain ⟨h1, h2⟩ := Rb hw
  simp only [cond_true]
  have hc : w = 1 ∨ w = 2 ∨ w = 3 ∨ w = 4 ∨ w = 5 ∨ w = 6 ∨ w = 7 ∨ w = 8 := by omega
  rcases hc with rfl | rfl | rfl | rfl | rfl | rfl | rfl | rfl <;> split <;> omega
theorem Xf {b : List Chg} (h : ∀ c ∈ b, Eo c = true) : (Bo b).length ≤ 200 * b.length := by
 induction b with
 | nil => simp [Bo]
 | cons c r ih =>
  have h1 := (Gz (h c (by simp))).2
  have h2 := ih fun c hc => h c (by simp [hc])
  have e : Bo (c :: r) = Fg c ++ Bo r := rfl
  rw [e, List.length_append, List.length_cons]
  omega
theorem Im (b : List Chg) : (Bi b).size ≤ 4000 := by
 unfold Bi
 cases hv : Am b with
 | false => exact Nat.zero_le _
 | true =>
  obtain ⟨_, h2, h3⟩ := Hr hv
  have := Xf h3
  show (strOfNums (Bo b)).size ≤ 4000
  rw [F7]
  omega
def Aat (i : Nat) (a : Int) : Prop := i ≤ 101 ∧ 0 ≤ a ∧ a ≤ 5000 * (i : Int)
theorem Aat.step {i : Nat} {a : Int} (h : Aat i a) (hi : i < 101) (b : List Chg) (w : Int) : Aat (i + 1) (a + Jl (Bi b).size w) := by
 have h1 := Td (Bi b).size w
 have h2 := Im b
 obtain ⟨_, h3, h4⟩ := h
 exact ⟨by omega, by omega, by omega⟩
abbrev ScT := Int × Int × ByteArray × List ByteArray × Int × Int
def seen (d : Dk) (a : Int) (k n : Nat) : List ByteArray := (List.range' k n).map fun k : Nat => Abo d (a + (k : Int))
def y6 (i : Nat) (s : ScT) : Prop := i ≤ 200 ∧ s.2.2.1.size ≤ 64 * i ∧ s.2.2.2.1.length ≤ i
theorem y6.zero (a b c l : Int) : y6 0 (a, b, z0, [], c, l) := ⟨by omega, Nat.le_refl 0, Nat.le_refl 0⟩
theorem Aau {α β : Type} {x : Option α} {y : α} {f : α → Option β} {z : Option β} (h : x = some y) (k : f y = z) : x.bind f = z := by rw [h]; exact k
def j7 (w life first : Int) (b : List Chg) (L : List ByteArray) : List ByteArray := L ++ Aap (Bi b) life (first + (L.length : Int)) w
def j8 (s : Sto) : Prop := (0 ≤ s.2.2.2.1.1 ∧ s.2.2.2.1.1 ≤ 1000000000) ∧ (0 ≤ s.2.2.2.1.2.1 ∧ s.2.2.2.1.2.1 ≤ 1) ∧ (0 ≤ s.2.2.2.1.2.2.1 ∧ s.2.2.2.1.2.2.1 ≤ 1000000000) ∧ s.2.2.2.2.2.2.1.1.length ≤ 1000000
instance (s : Sto) : Decidable (j8 s) := by unfold j8; infer_instance
theorem q7 (b : List Chg) (life f w : Int) : (Aap (Bi b) life f w).length ≤ 4001 := by
 unfold Aap
 cases hw : Of w 1 8 with
 | false => simp
 | true =>
  cases hc : (true && (Of life 1 60000 && (decide (1 ≤ f) && decide (f ≤ 1000000000 - Jl (Bi b).size w + 1)))) with
  | false => simp
  | true =>
   simp only [cond_true]
   rw [Ol, List.length_map, List.length_range']
   have h1 := j6 (Bi b) w
   rw [hw, cond_true] at h1
   have h2 := (Td (Bi b).size w).2
   have h3 := Im b
   omega
def MvI (i : Nat) (L : List ByteArray) : Prop := i ≤ 101 ∧ L.length ≤ 1 + 4001 * i
theorem MvI.step {i : Nat} {L : List ByteArray} (h : MvI i L) (hi : i < 101) (w life first : Int) (b : List Chg) : MvI (i + 1) (j7 w life first b L) := by
 obtain ⟨h1, h2⟩ := h
 refine ⟨by omega, ?_⟩
 unfold j7
 have := q7 b life (first + (L.length : Int)) w
 rw [List.length_append]
 omega
end Go.Proofs.Ytkfoebbjncngjaa.V

