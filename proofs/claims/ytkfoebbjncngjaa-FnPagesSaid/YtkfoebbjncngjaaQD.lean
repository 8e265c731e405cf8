/- What is drawn comes to some value. No condition. -/
import Derived.Test.YtkfoebbjncngjaaQS
namespace Go.Proofs.Ytkfoebbjncngjaa.V
open Go Go.Proofs.Ytkfoebbjncngjaa.R
set_option linter.unusedVariables false
set_option linter.unusedSimpArgs false
def Ar {α : Type} (o : Option α) (Q : α → Prop) : Prop := ∃ a, o = some a ∧ Q a
theorem Ar.bind {α β : Type} {o : Option α} {f : α → Option β} {Q : α → Prop} {S : β → Prop} (h : Ar o Q) (k : ∀ a, Q a → Ar (f a) S) : Ar (o.bind f) S := by
 obtain ⟨a, e, q⟩ := h
 rw [e]
 exact k a q
theorem Ar.cond {α : Type} {c : Bool} {x y : Option α} {Q : α → Prop} (h1 : c = true → Ar x Q) (h2 : c = false → Ar y Q) : Ar (bif c then x else y) Q := by
 cases c
 ·exact h2 rfl
 ·exact h1 rfl
theorem Ar.go {α : Type} {c : Bool} {x y : Option α} {Q : α → Prop} (h : c = true) (k : Ar x Q) : Ar (bif c then x else y) Q := by
 rw [h]
 exact k
theorem Ar.no {α : Type} {c : Bool} {x y : Option α} {Q : α → Prop} (h : c = false) (k : Ar y Q) : Ar (bif c then x else y) Q := by
 rw [h]
 exact k
theorem Ar.some {α : Type} {a : α} {Q : α → Prop} (h : Q a) : Ar (Option.some a) Q := ⟨a, rfl, h⟩
theorem Ar.mono {α : Type} {o : Option α} {Q S : α → Prop} (h : Ar o Q) (k : ∀ a, Q a → S a) : Ar o S := by
 obtain ⟨a, e, q⟩ := h
 exact ⟨a, e, k a q⟩
theorem Ar.loop {σ E : Type} {g : Nat → σ → Option E} (I : Nat → σ → Prop) {Q : E → Prop} (step : ∀ m k s, I k s → (∀ k' s', k' < k → I k' s' → Ar (g m s') Q) → Ar (g (m + 1) s) Q) :
  ∀ (m k : Nat) (s : σ), k < m → I k s → Ar (g m s) Q
 | 0, k, s, h, _ => by omega
 | m + 1, k, s, h, hI => step m k s hI fun k' s' h' hI' => Ar.loop I step m k' s' (by omega) hI'
abbrev Rd := List Int × Int × Unit
def rdB (b : List Int) : Bool := decide (b.length ≤ 2000) && b.all fun x => decide (0 ≤ x) && decide (x < 256)
def Se (k : Nat) (r : Rd) : Prop := rdB r.1 = true ∧ 0 ≤ r.2.1 ∧ r.2.1 ≤ (k : Int)
theorem Se.mono {k k' : Nat} {r : Rd} (h : Se k r) (hk : k ≤ k') : Se k' r := ⟨h.1, h.2.1, by have := h.2.2; omega⟩
theorem Ye {b : List Int} (h : rdB b = true) (i : Nat) : 0 ≤ b.getD i 0 ∧ b.getD i 0 < 256 := by
 unfold rdB at h
 simp only [Bool.and_eq_true, decide_eq_true_eq, List.all_eq_true] at h
 by_cases hi : i < b.length
 ·rw [List.getD_eq_getElem?_getD, List.getElem?_eq_getElem hi, Option.getD_some]
  exact h.2 _ (List.getElem_mem hi)
 ·rw [List.getD_eq_getElem?_getD, List.getElem?_eq_none (by omega)]
  exact ⟨Int.le_refl 0, by decide⟩
theorem w6 {α : Type} {l : List α} {d : α} {v : Int} {Q : α → Prop} (h : ∀ x ∈ l, Q x) (h0 : 0 ≤ v) (h1 : v < nI l.length) : Q (l.getD v.toNat d) := by
 simp only [nI] at h1
 have hi : v.toNat < l.length := by omega
 rw [List.getD_eq_getElem?_getD, List.getElem?_eq_getElem hi, Option.getD_some]
 exact h _ (List.getElem_mem hi)
theorem Ft {s : ByteArray} {i j : Int} (h0 : 0 ≤ i) (h1 : i ≤ j) (h2 : j ≤ (s.size : Int)) : ((Ac s i j).size : Int) = j - i := by
 rw [Ca h0 h1 h2]
 omega
theorem Pw {x n : Int} (h0 : 0 ≤ x) (hn : 1 ≤ n) : 0 ≤ x.tmod n ∧ x.tmod n < n := by
 rw [Int.tmod_eq_emod_of_nonneg h0]
 exact ⟨Int.emod_nonneg _ (by omega), Int.emod_lt_of_pos _ (by omega)⟩
theorem c9 {x y : Int} (hx : 0 ≤ x) (hx' : x < 4611686018427387904) (hy : 0 ≤ y) (hy' : y < 4611686018427387904) :
  0 ≤ IntKind.i64.wrap (nI (BitVec.ofInt 64 x ^^^ BitVec.ofInt 64 y).toNat) := by
 obtain ⟨a, rfl⟩ : ∃ a : Nat, x = (a : Int) := ⟨x.toNat, by omega⟩
 obtain ⟨b, rfl⟩ : ∃ b : Nat, y = (b : Int) := ⟨y.toNat, by omega⟩
 have h : (BitVec.ofInt 64 (a : Int) ^^^ BitVec.ofInt 64 (b : Int)).toNat < 4611686018427387904 := by
  rw [BitVec.toNat_xor, BitVec.ofInt_natCast, BitVec.ofInt_natCast, BitVec.toNat_ofNat, BitVec.toNat_ofNat, Nat.mod_eq_of_lt (by omega), Nat.mod_eq_of_lt (by omega)]
  exact Nat.xor_lt_two_pow (n := 62) (by omega) (by omega)
 simp only [nI]
 rw [Ai (by omega) (by omega)]
 omega
theorem Ar.law {o : Option ((Bool × Unit) × Unit)} (h : Ar o fun r => r.1.1 = true) : o = Option.some ((true, ()), ()) := by
 obtain ⟨⟨⟨b, ⟨⟩⟩, ⟨⟩⟩, e, q⟩ := h
 simp only at q
 rw [e, q]
end Go.Proofs.Ytkfoebbjncngjaa.V

