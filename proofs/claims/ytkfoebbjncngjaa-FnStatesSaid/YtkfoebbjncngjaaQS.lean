/- Plain facts, second part. No condition. -/
import Derived.Test.YtkfoebbjncngjaaQBase
namespace Go.Proofs.Ytkfoebbjncngjaa.V
open Go Go.Proofs.Ytkfoebbjncngjaa.R
set_option linter.unusedVariables false
set_option linter.unusedSimpArgs false
theorem Fd {α σ E : Type} {xs : List α} (z : α) (Inv : Nat → σ → Prop) (step : Nat → α → σ → σ) {g : Nat → Int → σ → Option E} {ok : σ → E}
  (hs : ∀ m (i : Nat) s, i < xs.length → Inv i s → g (m + 1) i s = g m ((i + 1 : Nat) : Int) (step i (xs.getD i z) s))
  (hi : ∀ i s, i < xs.length → Inv i s → Inv (i + 1) (step i (xs.getD i z) s))
  (he : ∀ m s, Inv xs.length s → g (m + 1) (xs.length : Int) s = some (ok s)) :
  ∀ (m i : Nat) s, i ≤ xs.length → xs.length - i < m → Inv i s → g m i s = some (ok (Ck step i (xs.drop i) s))
 | 0, i, s, _, hm, _ => by omega
 | m + 1, i, s, hl, hm, hI => by
  by_cases h : i < xs.length
  ·rw [hs m i s h hI, Fd z Inv step hs hi he m (i + 1) _ (by omega) (by omega) (hi i s h hI), Gp xs i z h]
   rfl
  ·have : i = xs.length := by omega
   subst this
   rw [he _ _ hI, List.drop_length]
   rfl
theorem w6 (n : Nat) (h : n < 1099511627776) : IntKind.wrap IntKind.i64 (nI (n + 1) - 1) = (n : Int) := by
 simp only [nI]
 rw [Ao (by omega) (by omega)]
 omega
theorem Agw (i : Nat) : (Int.tmod (i : Int) 20 == 0) = (i % 20 == 0) := by
 have : Int.tmod (i : Int) 20 = ((i % 20 : Nat) : Int) := by rw [Int.tmod_eq_emod_of_nonneg (by omega)]; omega
 rw [this]
 by_cases h : i % 20 = 0
 ·rw [h]; rfl
 ·rw [beq_eq_false_iff_ne.2 h]
  exact beq_eq_false_iff_ne.2 (by omega)
theorem i7 {α : Type} (c : Bool) (xs : List α) (y : α) : (Hn c xs y).length = xs.length + c.toNat := by cases c <;> simp [Hn]
def i8 (i : Nat) (s : List (List Chg) × Bool × List Chg) : Prop := i ≤ 100 ∧ s.1.length ≤ i ∧ (0 < i → s.2.1 = true) ∧ s.2.2.length ≤ i
theorem i8.step {i : Nat} {s : List (List Chg) × Bool × List Chg} (h : i8 i s) (h1 : i < 100) (p : Pr2) : i8 (i + 1) (D6 i p s) := by
 obtain ⟨_, h2, h3, h4⟩ := h
 unfold D6
 cases hc : (i % 20 == 0)
 ·have : 0 < i := Nat.pos_of_ne_zero fun q => by subst q; cases hc
  refine ⟨by omega, by simp only [cond_false]; omega, fun _ => h3 this, ?_⟩
  simp only [cond_false, List.length_append, List.length_singleton]
  omega
 ·refine ⟨by omega, ?_, fun _ => rfl, by simp⟩
  simp only [cond_true]
  rw [i7]
  by_cases q : 0 < i
  ·rw [h3 q]; simp; omega
  ·cases s.2.1 <;> simp <;> omega
theorem Cb {s : Stt} (h : Af s = true) : s.1.length ≤ 100 := of_decide_eq_true (Hc h).1
theorem Ad2 (s : ByteArray) (w : Int) : (bif M8 w 1 8 then ((Zb s w).length : Int) else 0) = C8 s.size w := by
 unfold C8
 cases hw : M8 w 1 8 with
 | false => rfl
 | true => exact w5 hw
theorem Na (n : Nat) (w : Int) : 0 ≤ C8 n w ∧ C8 n w ≤ (n : Int) + 1 := by
 unfold C8
 cases hw : M8 w 1 8 with
 | false => exact ⟨Int.le_refl _, by simp only [cond_false]; omega⟩
 | true =>
  obtain ⟨h1, h2⟩ := Mc hw
  simp only [cond_true]
  have hc : w = 1 ∨ w = 2 ∨ w = 3 ∨ w = 4 ∨ w = 5 ∨ w = 6 ∨ w = 7 ∨ w = 8 := by omega
  rcases hc with rfl | rfl | rfl | rfl | rfl | rfl | rfl | rfl <;> split <;> omega
theorem w8 {b : List Chg} (h : ∀ c ∈ b, F3 c = true) : (K1 b).length ≤ 200 * b.length := by
 induction b with
 | nil => simp [K1]
 | cons c r ih =>
  have h1 := (R7 (h c (by simp))).2
  have h2 := ih fun c hc => h c (by simp [hc])
  have e : K1 (c :: r) = Ux c ++ K1 r := rfl
  rw [e, List.length_append, List.length_cons]
  omega
theorem H5 (b : List Chg) : (Ed b).size ≤ 4000 := by
 unfold Ed
 cases hv : Av b with
 | false => exact Nat.zero_le _
 | true =>
  obtain ⟨_, h2, h3⟩ := Ab7 hv
  have := w8 h3
  show (strOfNums (K1 b)).size ≤ 4000
  rw [Mb]
  omega
theorem Q3 {α σ : Type} (z : α) (Inv : Nat → σ → Prop) (step : Nat → α → σ → σ) {xs : List α} (hi : ∀ i s, i < xs.length → Inv i s → Inv (i + 1) (step i (xs.getD i z) s)) :
  ∀ (k i : Nat) s, i + k = xs.length → Inv i s → Inv xs.length (Ck step i (xs.drop i) s)
 | 0, i, s, h, hI => by
  have : i = xs.length := by omega
  subst this
  rw [List.drop_length]
  exact hI
 | k + 1, i, s, h, hI => by
  rw [Gp xs i z (by omega)]
  exact Q3 z Inv step hi k (i + 1) _ (by omega) (hi i s (by omega) hI)
theorem Xo (s : Stt) : (Cx s).length ≤ 101 := by
 unfold Cx
 cases hv : Af s with
 | false => simp
 | true =>
  have hl := Cb hv
  have := Q3 zP i8 D6 (xs := s.1) (fun i r hi hI => hI.step (by omega) _) s.1.length 0 ([], false, []) (by omega) ⟨by omega, by simp, fun q => by omega, by simp⟩
  simp only [cond_true]
  rw [i7]
  have h1 := this.2.1
  show (Uy 0 s.1 ([], false, [])).1.length + _ ≤ 101
  have h2 : (Uy 0 s.1 ([], false, [])).2.1.toNat ≤ 1 := by cases (Uy 0 s.1 ([], false, [])).2.1 <;> decide
  have h3 : (Uy 0 s.1 ([], false, [])).1.length ≤ s.1.length := h1
  omega
def Xp (s : Stt) (w : Int) : Int := bif M8 w 1 8 then (((Cx s).map fun b => C8 (Ed b).size w).sum) else 0
theorem Xq {α : Type} (f : α → Int) : ∀ (l : List α) (i : Nat) (a : Int), Ck (fun _ b a => a + f b) i l a = a + (l.map f).sum
 | [], _, a => by simp [Ck]
 | x :: r, i, a => by
  show Ck _ (i + 1) r (a + f x) = _
  rw [Xq f r, List.map_cons, List.sum_cons]
  omega
theorem Ad3 {α : Type} (l : List α) : (l.map fun _ => (0 : Int)).sum = 0 := by
 induction l with
 | nil => rfl
 | cons x r ih => rw [List.map_cons, List.sum_cons, ih]; rfl
theorem Ad4 (s : Stt) (w : Int) : ((Cx s).map fun b => C8 (Ed b).size w).sum = Xp s w := by
 unfold Xp
 cases hw : M8 w 1 8 with
 | true => rfl
 | false =>
  have : (fun b : List Chg => C8 (Ed b).size w) = fun _ => 0 := by funext b; unfold C8; rw [hw]; rfl
  rw [this, Ad3]
  rfl
def Ad5 (i : Nat) (a : Int) : Prop := i ≤ 101 ∧ 0 ≤ a ∧ a ≤ 5000 * (i : Int)
theorem Ad5.step {i : Nat} {a : Int} (h : Ad5 i a) (hi : i < 101) (b : List Chg) (w : Int) : Ad5 (i + 1) (a + C8 (Ed b).size w) := by
 have h1 := Na (Ed b).size w
 have h2 := H5 b
 obtain ⟨_, h3, h4⟩ := h
 exact ⟨by omega, by omega, by omega⟩
theorem w9 {i : Nat} {a : Int} (h : Ad5 i a) (b : List Chg) (w : Int) : IntKind.wrap IntKind.i64 (a + C8 (Ed b).size w) = a + C8 (Ed b).size w := by
 have h1 := Na (Ed b).size w
 have h2 := H5 b
 obtain ⟨_, h3, h4⟩ := h
 exact Ao (by omega) (by omega)
abbrev ScT := Int × Int × ByteArray × List ByteArray × Int × Int
def j4 (i : Int) (p : Pg) (s : ScT) : ScT :=
 bif p.1 == 1 then (1, p.2.1, s.2.2.1 ++ p.2.2.2.1, s.2.2.2.1, s.2.2.2.2.1, s.2.2.2.2.2)
 else bif p.1 == 2 then (2, p.2.1, z0, s.2.2.2.1 ++ [s.2.2.1 ++ p.2.2.2.1], i + 1, p.2.1)
 else (p.1, p.2.1, z0, s.2.2.2.1, i + 1, p.2.1)
def seen (d : Dk) (a : Int) (k n : Nat) : List ByteArray := (List.range' k n).map fun k : Nat => Aht d (a + (k : Int))
def j5 (i : Nat) (s : ScT) : Prop := i ≤ 200 ∧ s.2.2.1.size ≤ 64 * i ∧ s.2.2.2.1.length ≤ i
theorem j5.zero (a b c l : Int) : j5 0 (a, b, z0, [], c, l) := ⟨by omega, Nat.le_refl 0, Nat.le_refl 0⟩
theorem j5.next {i : Nat} {s : ScT} {p : Pg} (h : j5 i s) (hi : i < 200) (hp : p.2.2.2.1.size ≤ 64) : j5 (i + 1) (j4 i p s) := by
 obtain ⟨_, h2, h3⟩ := h
 unfold j4
 cases (p.1 == 1)
 ·cases (p.1 == 2)
  ·exact ⟨by omega, Nat.zero_le _, by simp only [cond_false]; omega⟩
  ·refine ⟨by omega, Nat.zero_le _, ?_⟩
   simp only [cond_false, cond_true, List.length_append, List.length_singleton]
   omega
 ·refine ⟨by omega, ?_, by simp only [cond_true]; omega⟩
  simp only [cond_true, ByteArray.size_append]
  omega
def zSs : Stt := ([], ())
theorem U1 {α β : Type} {x : Option α} {y : α} {f : α → Option β} {z : Option β} (h : x = some y) (k : f y = z) : x.bind f = z := by rw [h]; exact k
def Ad6 (w life first : Int) (b : List Chg) (L : List ByteArray) : List ByteArray := L ++ Agu (Ed b) life (first + (L.length : Int)) w
def Ad7 (s : Sto) : Prop := (0 ≤ s.2.2.2.1.1 ∧ s.2.2.2.1.1 ≤ 1000000000) ∧ (0 ≤ s.2.2.2.1.2.1 ∧ s.2.2.2.1.2.1 ≤ 1) ∧ (0 ≤ s.2.2.2.1.2.2.1 ∧ s.2.2.2.1.2.2.1 ≤ 1000000000) ∧ s.2.2.2.2.2.2.1.1.length ≤ 1000000
instance (s : Sto) : Decidable (Ad7 s) := by unfold Ad7; infer_instance
theorem Afj (b : List Chg) (life f w : Int) : (Agu (Ed b) life f w).length ≤ 4001 := by
 unfold Agu
 cases hw : M8 w 1 8 with
 | false => simp
 | true =>
  cases hc : (true && (M8 life 1 60000 && (decide (1 ≤ f) && decide (f ≤ 1000000000 - C8 (Ed b).size w + 1)))) with
  | false => simp
  | true =>
   simp only [cond_true]
   rw [R8, List.length_map, List.length_range']
   have h1 := Ad2 (Ed b) w
   rw [hw, cond_true] at h1
   have h2 := (Na (Ed b).size w).2
   have h3 := H5 b
   omega
def MvI (i : Nat) (L : List ByteArray) : Prop := i ≤ 101 ∧ L.length ≤ 1 + 4001 * i
theorem MvI.step {i : Nat} {L : List ByteArray} (h : MvI i L) (hi : i < 101) (w life first : Int) (b : List Chg) : MvI (i + 1) (Ad6 w life first b L) := by
 obtain ⟨h1, h2⟩ := h
 refine ⟨by omega, ?_⟩
 unfold Ad6
 have := Afj b life (first + (L.length : Int)) w
 rw [List.length_append]
 omega
end Go.Proofs.Ytkfoebbjncngjaa.V

