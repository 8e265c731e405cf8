/- Plain facts. No condition. -/
import Derived.Test.YtkfoebbjncngjaaMBase
namespace Go.Proofs.Ytkfoebbjncngjaa.V
open Go Go.Proofs.Ytkfoebbjncngjaa.R
set_option linter.unusedVariables false
set_option linter.unusedSimpArgs false
theorem Ao {n : Int} (h0 : -9223372036854775808 ≤ n) (h1 : n < 9223372036854775808) : IntKind.i64.wrap n = n := by
 have e : IntKind.i64.wrap n = if n % 18446744073709551616 ≥ 9223372036854775808 then n % 18446744073709551616 - 18446744073709551616 else n % 18446744073709551616 := by
  simp [IntKind.wrap, IntKind.bits, IntKind.signed]
 rw [e]
 split <;> omega
theorem Gp {α : Type} (xs : List α) (i : Nat) (z : α) (h : i < xs.length) : xs.drop i = xs.getD i z :: xs.drop (i + 1) := by
 rw [List.drop_eq_getElem_cons h]
 simp [List.getD, List.getElem?_eq_getElem h]
theorem Zp {i n : Nat} (h : i < n) : decide ((i : Int) < nI n) = true := by simp [nI]; omega
theorem Q1 {n : Nat} : decide ((n : Int) < nI n) = false := by simp [nI]
theorem L9 {i : Nat} : decide ((0 : Int) ≤ (i : Int)) = true := by simp
theorem wI {i : Nat} (h : i < 4611686018427387904) : IntKind.i64.wrap ((i : Int) + 1) = ((i + 1 : Nat) : Int) := by rw [Ao (by omega) (by omega)]; rfl
theorem Aa4 {α : Type} {f : α → α → Bool} : ∀ {xs ys : List α}, xs.length ≠ ys.length → eqL f xs ys = false
 | [], [], h => absurd rfl h
 | [], _ :: _, _ => rfl
 | _ :: _, [], _ => rfl
 | x :: xs, y :: ys, h => by
  simp only [eqL]
  rw [Aa4 (by simpa using h), Bool.and_false]
theorem Aa5 {α E : Type} {xs ys : List α} (z : α) (f : α → α → Bool) {g : Nat → Int → Option E} {ok bad : E} (hl : ys.length = xs.length)
  (hs : ∀ m (i : Nat), i < xs.length → g (m + 1) i = bif f (xs.getD i z) (ys.getD i z) then g m ((i + 1 : Nat) : Int) else some bad)
  (he : ∀ m, g (m + 1) (xs.length : Int) = some ok) :
  ∀ (m i : Nat), i ≤ xs.length → xs.length - i < m → g m i = some (bif eqL f (xs.drop i) (ys.drop i) then ok else bad)
 | 0, i, hi, hm => by omega
 | m + 1, i, hi, hm => by
  by_cases h : i < xs.length
  ·rw [hs m i h, Gp xs i z h, Gp ys i z (by omega)]
   simp only [eqL]
   cases f (xs.getD i z) (ys.getD i z) with
   | false => rfl
   | true =>
    rw [cond_true, Aa5 z f hl hs he m (i + 1) (by omega) (by omega), Bool.true_and]
  ·have : i = xs.length := by omega
   subst this
   have hy : ys.drop xs.length = [] := List.drop_eq_nil_of_le (by omega)
   rw [he, List.drop_length, hy]
   rfl
theorem Ma {E : Type} {n : Nat} {g : Nat → Int → Option E} {ok bad : E} (p : Nat → Bool)
  (hs : ∀ m (i : Nat), i < n → g (m + 1) i = bif p i then g m ((i + 1 : Nat) : Int) else some bad)
  (he : ∀ m, g (m + 1) (n : Int) = some ok) :
  ∀ (m i : Nat), i ≤ n → n - i < m → g m i = some (bif (List.range' i (n - i)).all p then ok else bad)
 | 0, i, hi, hm => by omega
 | m + 1, i, hi, hm => by
  by_cases h : i < n
  ·have e : n - i = (n - (i + 1)) + 1 := by omega
   rw [hs m i h, e, List.range'_succ, List.all_cons]
   cases p i with
   | false => rfl
   | true =>
    rw [cond_true, Ma p hs he m (i + 1) (by omega) (by omega), Bool.true_and]
  ·have : i = n := by omega
   subst this
   rw [he, Nat.sub_self]
   rfl
theorem Hc {a b : Bool} (h : (a && b) = true) : a = true ∧ b = true := by
 cases a <;> cases b <;> first | exact ⟨rfl, rfl⟩ | cases h
theorem F2 {α : Type} {r : List α} {i : Nat} {x z : α} (h : i < r.length) : (r.set i x).getD i z = x := by
 simp [List.getD, h]
theorem Xg (n : Nat) (c : Nat) : decide (nI n > (c : Int)) = !decide (n ≤ c) := by
 by_cases q : n ≤ c
 ·have : ¬ (nI n > (c : Int)) := by simp [nI]; omega
  rw [decide_eq_true q, decide_eq_false this]; rfl
 ·have : nI n > (c : Int) := by simp [nI]; omega
  rw [decide_eq_false q, decide_eq_true this]; rfl
theorem gt0 (i : Nat) : decide ((i : Int) > 0) = !(i == 0) := by
 cases i with
 | zero => rfl
 | succ j =>
  have : ((j + 1 : Nat) : Int) > 0 := by omega
  rw [decide_eq_true this]; rfl
theorem wP (j : Nat) (h : j < 4611686018427387904) : IntKind.i64.wrap (((j + 1 : Nat) : Int) - 1) = (j : Int) := by rw [Ao (by omega) (by omega)]; omega
theorem Uz {α : Type} {f : α → α → Bool} (h : ∀ x, f x x = true) : ∀ xs, eqL f xs xs = true
 | [] => rfl
 | x :: r => by simp only [eqL, h, Uz h r, Bool.and_self]
theorem Adx (x : Int) : eqI x x = true := decide_eq_true rfl
theorem Ady (x : Bool) : eqO x x = true := by cases x <;> rfl
theorem Adz (x : ByteArray) : eqS x x = true := by unfold eqS; simp
theorem P7 : ∀ (t : Ty) (x : t.D), m5 t x x = true
 | .int _, x => Adx x
 | .bool, x => Ady x
 | .str, x => Adz x
 | .sl t, xs => Uz (P7 t) xs
 | .unit, _ => rfl
 | .pair a b, x => by
  show (m5 a x.1 x.1 && m5 b x.2 x.2) = true
  rw [P7, P7]
  rfl
theorem Xh {α E : Type} {xs : List α} (z : α) (p : α → Bool) (out : α → E) {g : Nat → Int → Option E} {ok : E}
  (hs : ∀ m (i : Nat), i < xs.length → g (m + 1) i = bif p (xs.getD i z) then some (out (xs.getD i z)) else g m ((i + 1 : Nat) : Int))
  (he : ∀ m, g (m + 1) (xs.length : Int) = some ok) :
  ∀ (m i : Nat), i ≤ xs.length → xs.length - i < m → g m i = some (Jc p out ok (xs.drop i))
 | 0, i, hi, hm => by omega
 | m + 1, i, hi, hm => by
  by_cases h : i < xs.length
  ·rw [hs m i h, Gp xs i z h]
   simp only [Jc]
   cases p (xs.getD i z) with
   | true => rfl
   | false => rw [cond_false, cond_false, Xh z p out hs he m (i + 1) (by omega) (by omega)]
  ·have : i = xs.length := by omega
   subst this
   rw [he, List.drop_length]
   rfl
theorem Oi {α E F : Type} (f : E → F) (p : α → Bool) (out : α → E) (ok : E) : ∀ l, f (Jc p out ok l) = Jc p (fun x => f (out x)) (f ok) l
 | [] => rfl
 | x :: r => by
  simp only [Jc]
  cases p x with
  | true => rfl
  | false => exact Oi f p out ok r
theorem Q2 {α σ : Type} (Inv : σ → Prop) (step : Nat → α → σ → σ) : ∀ (l : List α) (i : Nat) (s : σ), (∀ i s x, x ∈ l → Inv s → Inv (step i x s)) → Inv s → Inv (Ck step i l s)
 | [], _, _, _, h => h
 | x :: r, i, s, hs, h => Q2 Inv step r (i + 1) _ (fun i s y hy => hs i s y (List.mem_cons_of_mem _ hy)) (hs i s x (by simp) h)
theorem Xi {n : Nat} {p : Nat → Bool} (h : (List.range' 0 n).all p = true) (i : Nat) (hi : i < n) : p i = true := List.all_eq_true.1 h i (by simp [List.mem_range']; omega)
theorem U0 {s : ByteArray} {a b : Int} (h0 : 0 ≤ a) (h1 : a ≤ b) (h2 : b ≤ (s.size : Int)) : (Ag s a b).size = (b - a).toNat := by
 unfold Ag
 rw [ByteArray.size_extract]
 omega
structure Je (d : Dk) : Prop where
 n8 : 8 ≤ d.1.length
 n200 : d.1.length ≤ 200
 p300 : d.2.1.length ≤ 300
 sec : ∀ i, i < d.1.length → (d.1.getD i z0).size = 64
 pen : ∀ i, i < d.2.1.length → 0 ≤ (d.2.1.getD i zW).1 ∧ (d.2.1.getD i zW).1 < (d.1.length : Int) ∧ (d.2.1.getD i zW).2.1.size = 64
theorem g6 {α : Type} {xs : List α} {x : α} (z : α) (h : x ∈ xs) : ∃ i, i < xs.length ∧ xs.getD i z = x := by
 obtain ⟨i, hi, rfl⟩ := List.mem_iff_getElem.1 h
 exact ⟨i, hi, by simp [List.getD, List.getElem?_eq_getElem hi]⟩
theorem getD_set_ne {α : Type} {r : List α} {i j : Nat} {x z : α} (h : i ≠ j) : (r.set i x).getD j z = r.getD j z := by
 simp [List.getD, List.getElem?_set_ne h]
theorem Zc (sec : List ByteArray) (ws : List Wr) : (g5 sec ws).length = sec.length :=
 Q2 (fun s => s.length = sec.length) _ ws 0 sec (fun i s w _ h => by rw [List.length_set]; exact h) rfl
def g7 (n : Nat) (s : List ByteArray) : Prop := s.length = n ∧ ∀ i, i < n → (s.getD i z0).size = 64
theorem g7.set {n : Nat} {s : List ByteArray} (h : g7 n s) {j : Nat} {x : ByteArray} (hx : x.size = 64) : g7 n (s.set j x) := by
 refine ⟨by rw [List.length_set]; exact h.1, fun i hi => ?_⟩
 by_cases q : j = i
 ·subst q
  rw [F2 (by rw [h.1]; exact hi)]
  exact hx
 ·rw [getD_set_ne q]
  exact h.2 i hi
theorem bi_ {α β : Type} {m : Option α} {f : α → Option β} {a : α} {r : Option β} (h : m = some a) (h2 : f a = r) : m.bind f = r := by
 rw [h]; exact h2
theorem g8 {α : Type} {l : List α} {z : α} {P : α → Prop} (h : ∀ i, i < l.length → P (l.getD i z)) : ∀ x ∈ l, P x := by
 intro x hx
 obtain ⟨i, hi, rfl⟩ := List.mem_iff_getElem.1 hx
 have := h i hi
 rw [List.getD_eq_getElem?_getD, List.getElem?_eq_getElem hi] at this
 exact this
theorem Mb (a : List Int) : (strOfNums a).size = a.length := by
 unfold strOfNums
 show (List.toArray _).size = _
 simp
theorem g9 (v : Int) : ∀ n, (u6 v n).length = n
 | 0 => rfl
 | n + 1 => by simp only [u6, List.length_append, g9 (v / 256) n, List.length_singleton]
theorem Ad0 (v : Int) (n : Nat) : (L8 v n).size = n := by unfold L8; rw [Mb, g9]
theorem Aa6 {σ ρ : Type} (n : Nat) (Inv : Nat → σ → Prop) (step : Nat → σ → σ) {g : Nat → Nat → σ → Option ρ} {ok : σ → ρ}
  (hs : ∀ m i s, i < n → Inv i s → g (m + 1) i s = g m (i + 1) (step i s)) (he : ∀ m s, Inv n s → g (m + 1) n s = some (ok s))
  (hI : ∀ i s, i < n → Inv i s → Inv (i + 1) (step i s)) : ∀ k m i s, i + k = n → k < m → Inv i s → g m i s = some (ok (iter step k i s))
 | 0, m + 1, i, s, hi, _, h => by
  obtain rfl : i = n := by omega
  exact he m s h
 | k + 1, m + 1, i, s, hi, hm, h => by
  rw [hs m i s (by omega) h]
  exact Aa6 n Inv step hs he hI k m (i + 1) _ (by omega) (by omega) (hI i s (by omega) h)
theorem Mc {v lo hi : Int} (h : M8 v lo hi = true) : lo ≤ v ∧ v ≤ hi := ⟨of_decide_eq_true (Hc h).1, of_decide_eq_true (Hc h).2⟩
theorem Agv (x lo hi : Int) {ρ : Type} (f t : ρ) : (bif decide (x < lo) then f else bif decide (x > hi) then f else t) = bif M8 x lo hi then t else f := by
 unfold M8
 by_cases h1 : x < lo
 ·rw [decide_eq_true h1, decide_eq_false (show ¬ lo ≤ x by omega)]; rfl
 ·rw [decide_eq_false h1, decide_eq_true (show lo ≤ x by omega)]
  by_cases h2 : x > hi
  ·rw [decide_eq_true h2, decide_eq_false (show ¬ x ≤ hi by omega)]; rfl
  ·rw [decide_eq_false h2, decide_eq_true (show x ≤ hi by omega)]; rfl
theorem h8 {α β : Type} (f : α → List β) (z : α) (xs : List α) : ∀ k i r, i + k = xs.length → iter (fun i r => r ++ f (xs.getD i z)) k i r = r ++ ((xs.drop i).map f).flatten
 | 0, i, r, h => by
  rw [List.drop_eq_nil_of_le (by omega)]
  simp [iter]
 | k + 1, i, r, h => by
  rw [Gp xs i z (by omega)]
  simp only [iter, List.map_cons, List.flatten_cons]
  rw [h8 f z xs k (i + 1) _ (by omega), List.append_assoc]
theorem Ab6 (a b : ByteArray) : Aj (a ++ b) = Aj a ++ Aj b := by
 unfold Aj
 simp
theorem Xj (s : ByteArray) : (Aj s).length = s.size := by
 unfold Aj
 rw [List.length_map]
 rfl
theorem u7 (l : List Int) (h : Co l = true) : Aj (strOfNums l) = l := by
 unfold Aj strOfNums
 show (List.map _ (List.map _ l)) = l
 rw [List.map_map]
 conv => rhs; rw [← List.map_id l]
 refine List.map_congr_left fun x hx => ?_
 have := List.all_eq_true.1 h x hx
 obtain ⟨h1, h2⟩ := Hc this
 have h1 := of_decide_eq_true h1
 have h2 := of_decide_eq_true h2
 show (((UInt8.ofNat x.toNat).toNat : Nat) : Int) = x
 rw [UInt8.toNat_ofNat']
 rw [Nat.mod_eq_of_lt (by omega)]
 omega
theorem Xk (s : ByteArray) : Co (Aj s) = true := by
 refine List.all_eq_true.2 fun x hx => ?_
 obtain ⟨b, _, rfl⟩ := List.mem_map.1 hx
 have := b.toNat_lt
 show (decide (0 ≤ (b.toNat : Int)) && decide ((b.toNat : Int) < 256)) = true
 rw [decide_eq_true (by omega), decide_eq_true (by omega)]
 rfl
theorem F4 (a b : List Int) : Co (a ++ b) = (Co a && Co b) := List.all_append
theorem Afg (n : Nat) (h : n < 256) : L8 (nI n) 1 = strOfNums [nI n] := by
 unfold L8
 simp only [u6, List.nil_append]
 rw [show nI n % 256 = nI n by simp only [nI]; omega]
theorem Zd (n : Nat) (h : n < 256) : Co [nI n] = true := by
 show ((decide (0 ≤ nI n) && decide (nI n < 256)) && true) = true
 rw [decide_eq_true (by simp only [nI]; omega), decide_eq_true (by simp only [nI]; omega)]
 rfl
theorem h9 (n : Nat) (h : n < 256) : Aj (L8 (nI n) 1) = [nI n] := by
 rw [Afg n h, u7 _ (Zd n h)]
theorem Xl {c : Chg} (h : F3 c = true) : 1 ≤ c.1.size ∧ c.1.size ≤ 20 ∧ c.2.1.size ≤ 100 := by
 obtain ⟨h1, h2⟩ := Hc h
 obtain ⟨h2, _⟩ := Hc h2
 have := Mc h1
 have := of_decide_eq_true h2
 omega
theorem R7 {c : Chg} (h : F3 c = true) : Co (Ux c) = true ∧ (Ux c).length ≤ 200 := by
 obtain ⟨k1, k2, k3⟩ := Xl h
 unfold Ux
 have a1 := Zd c.1.size (by omega)
 have a2 := Zd c.2.1.size (by omega)
 have b1 : Co [1, nI c.1.size] = true := by
  rw [show [1, nI c.1.size] = [1] ++ [nI c.1.size] from rfl, F4, a1]; rfl
 have b0 : Co [0, nI c.1.size] = true := by
  rw [show [0, nI c.1.size] = [0] ++ [nI c.1.size] from rfl, F4, a1]; rfl
 cases c.2.2.1
 ·simp only [cond_false, F4, b0, a2, Xk, List.length_append, Xj, List.length_cons, List.length_nil]
  exact ⟨rfl, by omega⟩
 ·simp only [cond_true, F4, b1, Xk, List.length_append, Xj, List.length_cons, List.length_nil]
  exact ⟨rfl, by omega⟩
theorem Jf {b : List Chg} (h : Av b = true) : b.length ≤ 20 ∧ ∀ i, i < b.length → F3 (b.getD i zC) = true := by
 obtain ⟨h1, h2⟩ := Hc h
 refine ⟨by have := (Mc h1).2; omega, fun i hi => ?_⟩
 exact List.all_eq_true.1 h2 i (List.mem_range'_1.2 ⟨by omega, by omega⟩)
def Xm (i : Nat) (r : List Int) : Prop := r.length ≤ 200 * i ∧ Co r = true
theorem Xm.step {i : Nat} {r : List Int} {c : Chg} (h : Xm i r) (hc : F3 c = true) : Xm (i + 1) (r ++ Ux c) := by
 obtain ⟨q1, q2⟩ := R7 hc
 exact ⟨by rw [List.length_append]; have := h.1; omega, by rw [F4, h.2, q1]; rfl⟩
theorem i6 {b : List Chg} (h : ∀ i, i < b.length → F3 (b.getD i zC) = true) : ∀ k i r, i + k = b.length → Xm i r → Xm b.length (iter (fun i r => r ++ Ux (b.getD i zC)) k i r)
 | 0, i, r, e, hr => by
  obtain rfl : i = b.length := by omega
  exact hr
 | k + 1, i, r, e, hr => i6 h k (i + 1) _ (by omega) (hr.step (h i (by omega)))
theorem Ad1 {a b : ByteArray} (h : (a.toList == b.toList) = true) : a = b := by
 have h := eq_of_beq h
 rw [ByteArray.toList_eq, ByteArray.toList_eq] at h
 apply ByteArray.ext
 exact Array.ext' h
theorem Ab7 {b : List Chg} (h : Av b = true) : 1 ≤ b.length ∧ b.length ≤ 20 ∧ ∀ c ∈ b, F3 c = true := by
 obtain ⟨h1, h2⟩ := Jf h
 refine ⟨by have := (Mc (Hc h).1).1; omega, h1, g8 (z := zC) (P := fun c => F3 c = true) h2⟩
theorem Ab8 {a n : Int} (hn : 0 < n) : (a + n - 1) / n = 1 + (a - n + n - 1) / n := by
 have : a + n - 1 = (a - n + n - 1) + n * 1 := by omega
 rw [this, Int.add_mul_ediv_left _ _ (by omega)]
 omega
theorem Xn (n : Nat) (hn : 1 ≤ n) : ∀ (f : Nat) (s : ByteArray), s.size ≤ f → ((M9 n f s).length : Int) = if ((s.size : Int) + n - 1) / n > 1 then ((s.size : Int) + n - 1) / n else 1
 | 0, s, h => by
  have h0 : s.size = 0 := by omega
  simp only [M9, h0]
  have : (((0 : Nat) : Int) + n - 1) / n = 0 := Int.ediv_eq_zero_of_lt (by omega) (by omega)
  exact (if_neg (by rw [this]; decide)).symm
 | f + 1, s, h => by
  by_cases q : s.size > n
  ·have hc : (Ag s n (nI s.size)).size = s.size - n := by rw [U0 (by omega) (by simp only [nI]; omega) (by simp [nI])]; simp only [nI]; omega
   simp only [M9, if_pos q, List.length_cons]
   have ih := Xn n hn f (Ag s n (nI s.size)) (by omega)
   rw [hc] at ih
   have e := Ab8 (a := s.size) (n := n) (by omega)
   have e2 : ((s.size - n : Nat) : Int) = (s.size : Int) - n := by omega
   rw [e2] at ih
   have hp : 1 ≤ ((s.size : Int) - n + n - 1) / n := by
    rw [Int.le_ediv_iff_mul_le (by omega)]
    omega
   rw [e]
   generalize ((s.size : Int) - n + n - 1) / n = y at *
   rw [if_pos (by omega)]
   split at ih <;> omega
  ·simp only [M9, if_neg q]
   have : ((s.size : Int) + n - 1) / n < 2 := by
    rw [Int.ediv_lt_iff_lt_mul (by omega)]
    omega
   exact (if_neg (by omega)).symm
theorem w5 {s : ByteArray} {w : Int} (hw : M8 w 1 8 = true) : ((Zb s w).length : Int) = if ((s.size : Int) + (56 - w) - 1) / (56 - w) > 1 then ((s.size : Int) + (56 - w) - 1) / (56 - w) else 1 := by
 obtain ⟨h1, h2⟩ := Mc hw
 obtain ⟨n, hn⟩ : ∃ n : Nat, 56 - w = (n : Int) := ⟨(56 - w).toNat, by omega⟩
 unfold Zb
 rw [hn, Int.toNat_natCast]
 exact Xn n (by omega) s.size s (Nat.le_refl _)
theorem R8 (life w : Int) : ∀ (L : List ByteArray) (k : Int), Aa3 life w k L = (List.range' 0 L.length).map (fun i => R6 ((if i + 1 = L.length then 2 else 1), life, k + (i : Int), L.getD i z0, ()) w)
 | [], k => rfl
 | [p], k => by
  show [R6 (2, life, k, p, ()) w] = [R6 ((if 0 + 1 = 1 then 2 else 1), life, k + ((0 : Nat) : Int), p, ()) w]
  rw [if_pos rfl, show k + ((0 : Nat) : Int) = k by omega]
 | p :: q :: r, k => by
  have ih := R8 life w (q :: r) (k + 1)
  show R6 (1, life, k, p, ()) w :: Aa3 life w (k + 1) (q :: r) = (List.range' 0 ((q :: r).length + 1)).map (fun i => R6 ((if i + 1 = (q :: r).length + 1 then 2 else 1), life, k + (i : Int), (p :: q :: r).getD i z0, ()) w)
  rw [ih, List.range'_succ, List.map_cons]
  congr 1
  ·rw [if_neg (by rw [List.length_cons]; omega), show k + ((0 : Nat) : Int) = k by omega]
   rfl
  ·rw [show List.range' (0 + 1) (q :: r).length = List.map (fun x => 1 + x) (List.range' 0 (q :: r).length) by rw [List.map_add_range'], List.map_map]
   refine List.map_congr_left fun i _ => ?_
   show _ = R6 ((if 1 + i + 1 = (q :: r).length + 1 then 2 else 1), life, k + ((1 + i : Nat) : Int), (p :: q :: r).getD (1 + i) z0, ()) w
   rw [show k + ((1 + i : Nat) : Int) = k + 1 + (i : Int) by omega, show 1 + i = i + 1 by omega]
   by_cases e : i + 1 = (q :: r).length
   ·rw [if_pos e, if_pos (by omega)]; rfl
   ·rw [if_neg e, if_neg (by omega)]; rfl
theorem Je.sync {d : Dk} (h : Je d) : Je (Af5 d) := by
 have hl := Zc d.1 d.2.1
 have hs : g7 d.1.length (g5 d.1 d.2.1) := Q2 (g7 d.1.length) _ d.2.1 0 d.1 (fun i s w hw hI => hI.set (g8 (z := zW) (P := fun w : Wr => w.2.1.size = 64) (fun i hi => (h.pen i hi).2.2) w hw)) ⟨rfl, h.sec⟩
 exact ⟨by show 8 ≤ (g5 d.1 d.2.1).length; rw [hl]; exact h.n8, by show (g5 d.1 d.2.1).length ≤ 200; rw [hl]; exact h.n200, by show (0 : Nat) ≤ 300; omega, fun i hi => hs.2 i (by rw [← hl]; exact hi), fun i hi => absurd hi (by show ¬ i < 0; omega)⟩
theorem Je.op {d : Dk} (h : Je d) (o : Opn) : Je (opS d o) := by
 unfold opS
 cases o.1 with
 | true => exact h.sync
 | false =>
  cases hc : Ahc d.1.length (o.2.1, o.2.2.1, ()) && decide (d.2.1.length < 300) with
  | false => exact h
  | true =>
   obtain ⟨h1, h2⟩ := Hc hc
   obtain ⟨q1, q2⟩ := Hc h1
   obtain ⟨q2, q3⟩ := Hc q2
   have h2 := of_decide_eq_true h2
   refine ⟨h.n8, h.n200, by show (d.2.1 ++ [(o.2.1, o.2.2.1, ())]).length ≤ 300; rw [List.length_append, List.length_singleton]; omega, h.sec, fun i hi => ?_⟩
   have hi : i < d.2.1.length + 1 := by
    have hi : i < (d.2.1 ++ [(o.2.1, o.2.2.1, ())]).length := hi
    rw [List.length_append, List.length_singleton] at hi
    exact hi
   show 0 ≤ ((d.2.1 ++ [(o.2.1, o.2.2.1, ())]).getD i zW).1 ∧ ((d.2.1 ++ [(o.2.1, o.2.2.1, ())]).getD i zW).1 < (d.1.length : Int) ∧ ((d.2.1 ++ [(o.2.1, o.2.2.1, ())]).getD i zW).2.1.size = 64
   by_cases e : i < d.2.1.length
   ·have : (d.2.1 ++ [(o.2.1, o.2.2.1, ())]).getD i zW = d.2.1.getD i zW := by
     rw [List.getD_eq_getElem?_getD, List.getElem?_append_left e, ← List.getD_eq_getElem?_getD]
    rw [this]
    exact h.pen i e
   ·obtain rfl : i = d.2.1.length := by omega
    have : (d.2.1 ++ [(o.2.1, o.2.2.1, ())]).getD d.2.1.length zW = (o.2.1, o.2.2.1, ()) := by
     rw [List.getD_eq_getElem?_getD, List.getElem?_append_right (Nat.le_refl _), Nat.sub_self]
     rfl
    rw [this]
    exact ⟨of_decide_eq_true q1, of_decide_eq_true q2, of_decide_eq_true q3⟩
theorem Je.ops : ∀ (l : List Opn) {d : Dk}, Je d → Je (l.foldl opS d)
 | [], _, h => h
 | o :: r, _, h => Je.ops r (h.op o)
end Go.Proofs.Ytkfoebbjncngjaa.V

