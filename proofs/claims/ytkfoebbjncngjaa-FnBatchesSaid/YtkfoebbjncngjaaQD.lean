/- What is drawn comes to some value. No condition. -/
import Derived.Test.YtkfoebbjncngjaaQS
namespace Go.Proofs.Ytkfoebbjncngjaa.V
open Go Go.Proofs.Ytkfoebbjncngjaa.R
set_option linter.unusedVariables false
set_option linter.unusedSimpArgs false
def Ar {α : Type} (o : Option α) (Q : α → Prop) : Prop := ∃ a, o = some a ∧ Q a
theorem Ar.bind {α β : Type} {o : Option α} {f : α → Option β} {Q : α → Prop} {S : β → Prop} (h : Ar o Q) (k : ∀ a, Q a → Ar (f a) S) : Ar (o.bind f) S := by
 obtain ⟨a, e, q⟩ := h
 rw [e]
 exact k a q
theorem Ar.cond {α : Type} {c : Bool} {x y : Option α} {Q : α → Prop} (h1 : c = true → Ar x Q) (h2 : c = false → Ar y Q) : Ar (bif c then x else y) Q := by
 cases c
 ·exact h2 rfl
 ·exact h1 rfl
theorem Ar.go {α : Type} {c : Bool} {x y : Option α} {Q : α → Prop} (h : c = true) (k : Ar x Q) : Ar (bif c then x else y) Q := by
 rw [h]
 exact k
theorem Ar.no {α : Type} {c : Bool} {x y : Option α} {Q : α → Prop} (h : c = false) (k : Ar y Q) : Ar (bif c then x else y) Q := by
 rw [h]
 exact k
theorem Ar.some {α : Type} {a : α} {Q : α → Prop} (h : Q a) : Ar (Option.some a) Q := ⟨a, rfl, h⟩
theorem Ar.mono {α : Type} {o : Option α} {Q S : α → Prop} (h : Ar o Q) (k : ∀ a, Q a → S a) : Ar o S := by
 obtain ⟨a, e, q⟩ := h
 exact ⟨a, e, k a q⟩
theorem Ar.loop {σ E : Type} {g : Nat → σ → Option E} (I : Nat → σ → Prop) {Q : E → Prop} (step : ∀ m k s, I k s → (∀ k' s', k' < k → I k' s' → Ar (g m s') Q) → Ar (g (m + 1) s) Q) :
  ∀ (m k : Nat) (s : σ), k < m → I k s → Ar (g m s) Q
 | 0, k, s, h, _ => by omega
 | m + 1, k, s, h, hI => step m k s hI fun k' s' h' hI' => Ar.loop I step m k' s' (by omega) hI'
abbrev Rd := List Int × Int × Unit
def q8 (b : List Int) : Bool := decide (b.length ≤ 2000) && b.all fun x => decide (0 ≤ x) && decide (x < 256)
def Lo (k : Nat) (r : Rd) : Prop := q8 r.1 = true ∧ 0 ≤ r.2.1 ∧ r.2.1 ≤ (k : Int)
theorem Lo.mono {k k' : Nat} {r : Rd} (h : Lo k r) (hk : k ≤ k') : Lo k' r := ⟨h.1, h.2.1, by have := h.2.2; omega⟩
theorem Xg {b : List Int} (h : q8 b = true) (i : Nat) : 0 ≤ b.getD i 0 ∧ b.getD i 0 < 256 := by
 unfold q8 at h
 simp only [Bool.and_eq_true, decide_eq_true_eq, List.all_eq_true] at h
 by_cases hi : i < b.length
 ·rw [List.getD_eq_getElem?_getD, List.getElem?_eq_getElem hi, Option.getD_some]
  exact h.2 _ (List.getElem_mem hi)
 ·rw [List.getD_eq_getElem?_getD, List.getElem?_eq_none (by omega)]
  exact ⟨Int.le_refl 0, by decide⟩
theorem Uu {α : Type} {l : List α} {d : α} {v : Int} {Q : α → Prop} (h : ∀ x ∈ l, Q x) (h0 : 0 ≤ v) (h1 : v < nI l.length) : Q (l.getD v.toNat d) := by
 simp only [nI] at h1
 have hi : v.toNat < l.length := by omega
 rw [List.getD_eq_getElem?_getD, List.getElem?_eq_getElem hi, Option.getD_some]
 exact h _ (List.getElem_mem hi)
theorem G0 {s : ByteArray} {i j : Int} (h0 : 0 ≤ i) (h1 : i ≤ j) (h2 : j ≤ (s.size : Int)) : ((Ab s i j).size : Int) = j - i := by
 rw [Lb h0 h1 h2]
 omega
theorem Pp {x n : Int} (h0 : 0 ≤ x) (hn : 1 ≤ n) : 0 ≤ x.tmod n ∧ x.tmod n < n := by
 rw [Int.tmod_eq_emod_of_nonneg h0]
 exact ⟨Int.emod_nonneg _ (by omega), Int.emod_lt_of_pos _ (by omega)⟩
theorem Zj {x y : Int} (hx : 0 ≤ x) (hx' : x < 4611686018427387904) (hy : 0 ≤ y) (hy' : y < 4611686018427387904) :
  0 ≤ IntKind.i64.wrap (nI (BitVec.ofInt 64 x ^^^ BitVec.ofInt 64 y).toNat) := by
 obtain ⟨a, rfl⟩ : ∃ a : Nat, x = (a : Int) := ⟨x.toNat, by omega⟩
 obtain ⟨b, rfl⟩ : ∃ b : Nat, y = (b : Int) := ⟨y.toNat, by omega⟩
 have h : (BitVec.ofInt 64 (a : Int) ^^^ BitVec.ofInt 64 (b : Int)).toNat < 4611686018427387904 := by
  rw [BitVec.toNat_xor, BitVec.ofInt_natCast, BitVec.ofInt_natCast, BitVec.toNat_ofNat, BitVec.toNat_ofNat, Nat.mod_eq_of_lt (by omega), Nat.mod_eq_of_lt (by omega)]
  exact Nat.xor_lt_two_pow (n := 62) (by omega) (by omega)
 simp only [nI]
 rw [At (by omega) (by omega)]
 omega
theorem Ar.letter {α : Type} {A : ByteArray} {v : Int} {x : Option α} {S : α → Prop} (v0 : 0 ≤ v) (v1 : v < nI A.size) (k : (Ab (Ab A v (nI A.size)) 0 1).size = 1 → Ar x S) :
  Ar (bif decide (0 ≤ v) then bif decide (v ≤ nI A.size) then bif decide (1 ≤ nI (Ab A v (nI A.size)).size) then x else none else none else none) S := by
 have e1 := G0 (s := A) v0 (show v ≤ nI A.size by omega) (Int.le_refl _)
 have e2 := G0 (s := Ab A v (nI A.size)) (i := 0) (j := 1) (by omega) (by omega) (by simp only [nI] at *; omega)
 exact Ar.go (decide_eq_true v0) (Ar.go (decide_eq_true (Int.le_of_lt v1)) (Ar.go (decide_eq_true (by simp only [nI] at *; omega)) (k (by omega))))
theorem Ar.law {o : Option ((Bool × Unit) × Unit)} (h : Ar o fun r => r.1.1 = true) : o = Option.some ((true, ()), ()) := by
 obtain ⟨⟨⟨b, ⟨⟩⟩, ⟨⟩⟩, e, q⟩ := h
 simp only at q
 rw [e, q]
theorem Wb {b : List Chg} (h : Am b = true) : Aa (Bi b) = Bo b := by
 unfold Bi
 rw [h, cond_true]
 exact E4 _ (Ta (Hr h).2.2)
theorem Zk {t : ByteArray} (h : (D6 t).2 = true) : Bi (D6 t).1 = t := by
 by_cases hb : ∃ b, Am b = true ∧ Aa t = Bo b
 ·obtain ⟨b, h1, h2⟩ := hb
  rw [(Po h1 h2).1]
  show Bi b = t
  unfold Bi
  rw [h1, ← h2, cond_true, Rf]
 ·rw [(Ut fun b h1 h2 => hb ⟨b, h1, h2⟩).1] at h
  cases h
theorem Zl {b : List Chg} : ((Bi b).toList == (ByteArray.mk #[]).toList) = !Am b := by
 have tl : ByteArray.toList (ByteArray.mk #[]) = [] := by decide +kernel
 cases hv : Am b with
 | false =>
  unfold Bi
  rw [hv, cond_false, tl]
  rfl
 | true =>
  rw [tl]
  refine beq_eq_false_iff_ne.2 fun q => ?_
  have h1 := Wb hv
  have h2 : Bi b = ⟨#[]⟩ := by
   exact y5 (by rw [q, tl]; rfl)
  rw [h2] at h1
  obtain ⟨k1, _, _⟩ := Hr hv
  cases b with
  | nil => simp at k1
  | cons c r =>
   unfold Bo Fg at h1
   cases hg : c.2.2.1 <;> simp [hg, Aa] at h1
theorem Zm (b : List Chg) : (D6 (Bi b)).2 = Am b ∧ (Am b = true → (D6 (Bi b)).1 = b) := by
 cases hv : Am b with
 | true =>
  have := (Po hv (Wb hv)).1
  rw [this]
  exact ⟨rfl, fun _ => rfl⟩
 | false =>
  refine ⟨?_, fun q => by cases q⟩
  have e : Bi b = ⟨#[]⟩ := by unfold Bi; rw [hv]; rfl
  rw [e]
  decide +kernel
def Gn (c : Chg) : Prop := c.1.size ≤ 1000 ∧ c.2.1.size ≤ 1000
theorem Wc {l : List Chg} {c : Chg} (h : ∀ c ∈ l, Gn c) (hc : Gn c) : ∀ x ∈ l ++ [c], Gn x := fun x hx => by
 rcases List.mem_append.1 hx with q | q
 ·exact h x q
 ·rw [List.mem_singleton.1 q]; exact hc
end Go.Proofs.Ytkfoebbjncngjaa.V

