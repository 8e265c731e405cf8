/- Plain facts, second part. No condition. -/
import Derived.Test.YtkfoebbjncngjaaQBase
namespace Go.Proofs.Ytkfoebbjncngjaa.V
open Go Go.Proofs.Ytkfoebbjncngjaa.R
set_option linter.unusedVariables false
set_option linter.unusedSimpArgs false
theorem u5 {α : Type} (c : Bool) (xs : List α) (y : α) : (Ih c xs y).length = xs.length + c.toNat := by cases c <;> simp [Ih]
def u6 (i : Nat) (s : List (List Chg) × Bool × List Chg) : Prop := i ≤ 100 ∧ s.1.length ≤ i ∧ (0 < i → s.2.1 = true) ∧ s.2.2.length ≤ i
theorem u6.step {i : Nat} {s : List (List Chg) × Bool × List Chg} (h : u6 i s) (h1 : i < 100) (p : Pr2) : u6 (i + 1) (Wi i p s) := by
 obtain ⟨_, h2, h3, h4⟩ := h
 unfold Wi
 cases hc : (i % 20 == 0)
 ·have : 0 < i := Nat.pos_of_ne_zero fun q => by subst q; cases hc
  refine ⟨by omega, by simp only [cond_false]; omega, fun _ => h3 this, ?_⟩
  simp only [cond_false, List.length_append, List.length_singleton]
  omega
 ·refine ⟨by omega, ?_, fun _ => rfl, by simp⟩
  simp only [cond_true]
  rw [u5]
  by_cases q : 0 < i
  ·rw [h3 q]; simp; omega
  ·cases s.2.1 <;> simp <;> omega
theorem u7 (s : ByteArray) (w : Int) : (bif Cs w 1 8 then ((A3 s w).length : Int) else 0) = I6 s.size w := by
 unfold I6
 cases hw : Cs w 1 8 with
 | false => rfl
 | true => exact Lb hw
theorem Tp (n : Nat) (w : Int) : 0 ≤ I6 n w ∧ I6 n w ≤ (n : Int) + 1 := by
 unfold I6
 cases hw : Cs w 1 8 with
 | false => exact ⟨Int.le_refl _, by simp only [cond_false]; omega⟩
 | true =>
  obtain ⟨h1, h2⟩ := Fg hw
  simp only [cond_true]
  have hc : w = 1 ∨ w = 2 ∨ w = 3 ∨ w = 4 ∨ w = 5 ∨ w = 6 ∨ w = 7 ∨ w = 8 := by omega
  rcases hc with rfl | rfl | rfl | rfl | rfl | rfl | rfl | rfl <;> split <;> omega
theorem Yd {b : List Chg} (h : ∀ c ∈ b, Ow c = true) : (Nr b).length ≤ 200 * b.length := by
 induction b with
 | nil => simp [Nr]
 | cons c r ih =>
  have h1 := (Ox (h c (by simp))).2
  have h2 := ih fun c hc => h c (by simp [hc])
  have e : Nr (c :: r) = b4 c ++ Nr r := rfl
  rw [e, List.length_append, List.length_cons]
  omega
theorem Re (b : List Chg) : (Mo b).size ≤ 4000 := by
 unfold Mo
 cases hv : F8 b with
 | false => exact Nat.zero_le _
 | true =>
  obtain ⟨_, h2, h3⟩ := b8 hv
  have := Yd h3
  show (strOfNums (Nr b)).size ≤ 4000
  rw [Ay]
  omega
def Ack (i : Nat) (a : Int) : Prop := i ≤ 101 ∧ 0 ≤ a ∧ a ≤ 5000 * (i : Int)
theorem Ack.step {i : Nat} {a : Int} (h : Ack i a) (hi : i < 101) (b : List Chg) (w : Int) : Ack (i + 1) (a + I6 (Mo b).size w) := by
 have h1 := Tp (Mo b).size w
 have h2 := Re b
 obtain ⟨_, h3, h4⟩ := h
 exact ⟨by omega, by omega, by omega⟩
abbrev ScT := Int × Int × ByteArray × List ByteArray × Int × Int
def Zh (wk wl : Int) (p : Pg) : Bool := bif decide (p.2.1 < wl) then false else bif p.1 == 3 then wk != 1 else bif p.1 == 1 || p.1 == 2 then wk != 1 || wl == p.2.1 else false
def Ja (i : Int) (p : Pg) (s : ScT) : ScT :=
 bif p.1 == 1 then (1, p.2.1, s.2.2.1 ++ p.2.2.2.1, s.2.2.2.1, s.2.2.2.2.1, s.2.2.2.2.2)
 else bif p.1 == 2 then (2, p.2.1, z0, s.2.2.2.1 ++ [s.2.2.1 ++ p.2.2.2.1], i + 1, p.2.1)
 else (p.1, p.2.1, z0, s.2.2.2.1, i + 1, p.2.1)
def Fs (s : ScT) : Scd := (s.2.2.2.1, s.2.2.2.2.1, s.2.2.2.2.2, ())
def Jb (w first i : Int) (s : ScT) (x : ByteArray) : Bool := (Ea x w).2 && (((Ea x w).1.2.2.1 - i == first) && Zh s.1 s.2.1 (Ea x w).1)
def Bq (w first : Int) : List ByteArray → Int → ScT → Scd
 | [], _, s => Fs s
 | x :: r, i, s => bif Jb w first i s x then Bq w first r (i + 1) (Ja i (Ea x w).1 s) else Fs s
def seen (d : Dk) (a : Int) (k n : Nat) : List ByteArray := (List.range' k n).map fun k : Nat => Aaw d (a + (k : Int))
def Zi (d : Dk) (from_ size first life w : Int) : Scd :=
 bif J6 d && (Cs w 1 8 && (decide (0 ≤ from_) && (decide (0 ≤ size) && (decide (from_ ≤ (d.1.length : Int)) && decide (size ≤ (d.1.length : Int) - from_))))) then Bq w first (seen d from_ 0 size.toNat) 0 (0, life, z0, [], 0, life) else ([], 0, 0, ())
def Abx (i : Nat) (s : ScT) : Prop := i ≤ 200 ∧ s.2.2.1.size ≤ 64 * i ∧ s.2.2.2.1.length ≤ i
theorem Abx.zero (a b c l : Int) : Abx 0 (a, b, z0, [], c, l) := ⟨by omega, Nat.le_refl 0, Nat.le_refl 0⟩
theorem Mq (d : Dk) (a : Int) (k n : Nat) : (seen d a k n).length = n := by simp [seen]
theorem Acl {α β : Type} {x : Option α} {y : α} {f : α → Option β} {z : Option β} (h : x = some y) (k : f y = z) : x.bind f = z := by rw [h]; exact k
def u9 (w life first : Int) (b : List Chg) (L : List ByteArray) : List ByteArray := L ++ Ach (Mo b) life (first + (L.length : Int)) w
def w5 (s : Sto) : Prop := (0 ≤ s.2.2.2.1.1 ∧ s.2.2.2.1.1 ≤ 1000000000) ∧ (0 ≤ s.2.2.2.1.2.1 ∧ s.2.2.2.1.2.1 ≤ 1) ∧ (0 ≤ s.2.2.2.1.2.2.1 ∧ s.2.2.2.1.2.2.1 ≤ 1000000000) ∧ s.2.2.2.2.2.2.1.1.length ≤ 1000000
instance (s : Sto) : Decidable (w5 s) := by unfold w5; infer_instance
theorem Aa1 (b : List Chg) (life f w : Int) : (Ach (Mo b) life f w).length ≤ 4001 := by
 unfold Ach
 cases hw : Cs w 1 8 with
 | false => simp
 | true =>
  cases hc : (true && (Cs life 1 60000 && (decide (1 ≤ f) && decide (f ≤ 1000000000 - I6 (Mo b).size w + 1)))) with
  | false => simp
  | true =>
   simp only [cond_true]
   rw [I9, List.length_map, List.length_range']
   have h1 := u7 (Mo b) w
   rw [hw, cond_true] at h1
   have h2 := (Tp (Mo b).size w).2
   have h3 := Re b
   omega
def MvI (i : Nat) (L : List ByteArray) : Prop := i ≤ 101 ∧ L.length ≤ 1 + 4001 * i
theorem MvI.step {i : Nat} {L : List ByteArray} (h : MvI i L) (hi : i < 101) (w life first : Int) (b : List Chg) : MvI (i + 1) (u9 w life first b L) := by
 obtain ⟨h1, h2⟩ := h
 refine ⟨by omega, ?_⟩
 unfold u9
 have := Aa1 b life (first + (L.length : Int)) w
 rw [List.length_append]
 omega
end Go.Proofs.Ytkfoebbjncngjaa.V

