/- Plain facts. No condition. -/
import Derived.Test.YtkfoebbjncngjaaMBase
namespace Go.Proofs.Ytkfoebbjncngjaa.V
open Go Go.Proofs.Ytkfoebbjncngjaa.R
set_option linter.unusedVariables false
set_option linter.unusedSimpArgs false
theorem Ey {n : Int} (h0 : -9223372036854775808 ≤ n) (h1 : n < 9223372036854775808) : IntKind.i64.wrap n = n := by
 have e : IntKind.i64.wrap n = if n % 18446744073709551616 ≥ 9223372036854775808 then n % 18446744073709551616 - 18446744073709551616 else n % 18446744073709551616 := by
  simp [IntKind.wrap, IntKind.bits, IntKind.signed]
 rw [e]
 split <;> omega
theorem Pm {α : Type} (xs : List α) (i : Nat) (z : α) (h : i < xs.length) : xs.drop i = xs.getD i z :: xs.drop (i + 1) := by
 rw [List.drop_eq_getElem_cons h]
 simp [List.getD, List.getElem?_eq_getElem h]
theorem Ip {α : Type} {xs : List α} {i : Nat} (z : α) (h : i < xs.length) : xs.getD i z ∈ xs := by
 simp [List.getD, List.getElem?_eq_getElem h]
theorem i7 {i n : Nat} (h : i < n) : decide ((i : Int) < nI n) = true := by simp [nI]; omega
theorem Wu {n : Nat} : decide ((n : Int) < nI n) = false := by simp [nI]
theorem Wv {i : Nat} : decide ((0 : Int) ≤ (i : Int)) = true := by simp
theorem Acy {i n : Nat} (h : i < n) : decide (i < n) = true := by simp [h]
theorem wI {i : Nat} (h : i < 4611686018427387904) : IntKind.i64.wrap ((i : Int) + 1) = ((i + 1 : Nat) : Int) := by rw [Ey (by omega) (by omega)]; rfl
theorem N1 {α : Type} {f : α → α → Bool} : ∀ {xs ys : List α}, xs.length ≠ ys.length → Lw f xs ys = false
 | [], [], h => absurd rfl h
 | [], _ :: _, _ => rfl
 | _ :: _, [], _ => rfl
 | x :: xs, y :: ys, h => by
  simp only [Lw]
  rw [N1 (by simpa using h), Bool.and_false]
theorem N2 {α E : Type} {xs ys : List α} (z : α) (f : α → α → Bool) {g : Nat → Int → Option E} {ok bad : E} (hl : ys.length = xs.length)
  (hs : ∀ m (i : Nat), i < xs.length → g (m + 1) i = bif f (xs.getD i z) (ys.getD i z) then g m ((i + 1 : Nat) : Int) else some bad)
  (he : ∀ m, g (m + 1) (xs.length : Int) = some ok) :
  ∀ (m i : Nat), i ≤ xs.length → xs.length - i < m → g m i = some (bif Lw f (xs.drop i) (ys.drop i) then ok else bad)
 | 0, i, hi, hm => by omega
 | m + 1, i, hi, hm => by
  by_cases h : i < xs.length
  ·rw [hs m i h, Pm xs i z h, Pm ys i z (by omega)]
   simp only [Lw]
   cases f (xs.getD i z) (ys.getD i z) with
   | false => rfl
   | true =>
    rw [cond_true, N2 z f hl hs he m (i + 1) (by omega) (by omega), Bool.true_and]
  ·have : i = xs.length := by omega
   subst this
   have hy : ys.drop xs.length = [] := List.drop_eq_nil_of_le (by omega)
   rw [he, List.drop_length, hy]
   rfl
theorem Acz {a b c : Bool} (h : (a && b && c) = true) : a = true ∧ b = true ∧ c = true := by
 cases a <;> cases b <;> cases c <;> first | exact ⟨rfl, rfl, rfl⟩ | cases h
theorem Jw {a b : Bool} (h : (a && b) = true) : a = true ∧ b = true := by
 cases a <;> cases b <;> first | exact ⟨rfl, rfl⟩ | cases h
theorem F1 {t : Ty} {xs : List t.D} (h : An (.sl t) xs = true) : List.length xs < 1152921504606846976 ∧ ∀ x ∈ xs, An t x = true := by
 obtain ⟨h1, h2⟩ := Jw h
 exact ⟨of_decide_eq_true h1, List.all_eq_true.1 h2⟩
theorem Ac {a b : Ty} {x : a.D × b.D} (h : An (.pair a b) x = true) : An a x.1 = true ∧ An b x.2 = true := Jw h
theorem Dp {t : Ty} {x y : t.D} {r : Bool} (h : Yb t x y = some r) : An t x = true ∧ An t y = true ∧ D1 t x y = r := by
 unfold Yb at h
 split at h
 ·rename_i hc
  obtain ⟨h1, h2⟩ := Jw hc
  exact ⟨h1, h2, Option.some.inj h⟩
 ·cases h
theorem F7 {t : Ty} {x y : t.D} (h1 : An t x = true) (h2 : An t y = true) : Yb t x y = some (D1 t x y) := by
 unfold Yb
 rw [if_pos (by rw [h1, h2]; rfl)]
theorem Qu (a b : Int) : (a != b) = !I0 a b := by
 unfold I0
 by_cases h : a = b <;> simp [h, bne]
theorem Dn {α : Type} {r : List α} {i : Nat} {x z : α} (h : i < r.length) : (r.set i x).getD i z = x := by
 simp [List.getD, h]
theorem Pn {α E : Type} (e : Int → α) (c : Nat) {n : Nat} {K : Int} {g : Nat → Int → Int → List α → Option E} {ok : Int → List α → E}
  (hs : ∀ m (i : Nat) (k : Int) (r : List α), i < n → r.length = n → 1 ≤ k → k + (n - i : Nat) * c ≤ K → g (m + 1) k i r = g m (k + c) ((i + 1 : Nat) : Int) (r.set i (e k)))
  (he : ∀ m k r, r.length = n → g (m + 1) k (n : Int) r = some (ok k r)) :
  ∀ (m i : Nat) (k : Int) (r : List α), i ≤ n → n - i < m → r.length = n → 1 ≤ k → k + (n - i : Nat) * c ≤ K → g m k i r = some (ok (k + (n - i : Nat) * c) (r.take i ++ gL e c (n - i) k))
 | 0, i, k, r, hi, hm, _, _, _ => by omega
 | m + 1, i, k, r, hi, hm, hr, h1, hK => by
  by_cases h : i < n
  ·have q : n - i = (n - (i + 1)) + 1 := by omega
   have hK2 : k + (c : Int) + (n - (i + 1) : Nat) * c = k + (n - i : Nat) * c := by
    rw [q, Int.natCast_add, Int.add_mul]
    simp only [Int.natCast_one, Int.one_mul]
    omega
   rw [hs m i k r h hr h1 hK, Pn e c hs he m (i + 1) _ _ (by omega) (by omega) (by simp [hr]) (by omega) (by rw [hK2]; exact hK), hK2]
   have h2 : (r.set i (e k)).take (i + 1) = r.take i ++ [e k] := by
    rw [List.take_add_one, List.take_set_of_le (Nat.le_refl i), List.getElem?_set_self (by omega)]
    rfl
   rw [h2, List.append_assoc]
   have h3 : gL e c (n - i) k = e k :: gL e c (n - (i + 1)) (k + c) := by rw [q]; rfl
   rw [h3]
   rfl
  ·have : i = n := by omega
   subst this
   rw [he _ _ _ hr, Nat.sub_self]
   simp [gL, ← hr]
theorem Le {α E : Type} {xs : List α} (z : α) (f : α → α → Bool) (e : Int → α) (c : Nat) {K : Int} {g : Nat → Int → Int → Option E} {ok : Int → E} {bad : E}
  (hs : ∀ m (i : Nat) (k : Int), i < xs.length → 1 ≤ k → k + (xs.length - i : Nat) * c ≤ K → g (m + 1) k i = bif f (xs.getD i z) (e k) then g m (k + c) ((i + 1 : Nat) : Int) else some bad)
  (he : ∀ m k, g (m + 1) k (xs.length : Int) = some (ok k)) :
  ∀ (m i : Nat) (k : Int), i ≤ xs.length → xs.length - i < m → 1 ≤ k → k + (xs.length - i : Nat) * c ≤ K → g m k i = some (bif Lw f (xs.drop i) (gL e c (xs.length - i) k) then ok (k + (xs.length - i : Nat) * c) else bad)
 | 0, i, k, hi, hm, _, _ => by omega
 | m + 1, i, k, hi, hm, h1, hK => by
  by_cases h : i < xs.length
  ·have q : xs.length - i = (xs.length - (i + 1)) + 1 := by omega
   have hK2 : k + (c : Int) + (xs.length - (i + 1) : Nat) * c = k + (xs.length - i : Nat) * c := by
    rw [q, Int.natCast_add, Int.add_mul]
    simp only [Int.natCast_one, Int.one_mul]
    omega
   have h3 : gL e c (xs.length - i) k = e k :: gL e c (xs.length - (i + 1)) (k + c) := by rw [q]; rfl
   rw [hs m i k h h1 hK, Pm xs i z h, h3]
   simp only [Lw]
   cases f (xs.getD i z) (e k) with
   | false => rfl
   | true => rw [cond_true, Le z f e c hs he m (i + 1) _ (by omega) (by omega) (by omega) (by rw [hK2]; exact hK), hK2, Bool.true_and]
  ·have : i = xs.length := by omega
   subst this
   rw [he, Nat.sub_self, List.drop_length]
   simp [gL, Lw]
theorem x5 {α : Type} (e : Int → α) (c : Nat) : ∀ n k, (gL e c n k).length = n
 | 0, _ => rfl
 | n + 1, k => by simp [gL, x5 e c n]
theorem Tk {t : Ty} {xs : List t.D} {k : Int} {r : Int × List t.D} (h : Kn t xs k = some r) : 1 ≤ k ∧ k ≤ 1125899906842624 ∧ List.length xs ≤ 1125899906842624 ∧ (k + List.length xs * i5 t, mkL t (List.length xs) k) = r := by
 unfold Kn at h
 split at h
 ·rename_i hc
  obtain ⟨h1, h2, h3⟩ := Acz hc
  exact ⟨of_decide_eq_true h1, of_decide_eq_true h2, of_decide_eq_true h3, Option.some.inj h⟩
 ·cases h
theorem X6 {t : Ty} {xs : List t.D} {k : Int} (h1 : 1 ≤ k) (h2 : k ≤ 1125899906842624) (h3 : List.length xs ≤ 1125899906842624) : Kn t xs k = some (k + List.length xs * i5 t, mkL t (List.length xs) k) := by
 unfold Kn
 rw [if_pos (by rw [decide_eq_true h1, decide_eq_true h2, decide_eq_true h3]; rfl)]
theorem Mj {t : Ty} {xs : List t.D} {k : Int} {r : Int} (h : Ff t xs k = some r) : 1 ≤ k ∧ k ≤ 1125899906842624 ∧ List.length xs ≤ 1125899906842624 ∧ (if D1 (.sl t) xs (mkL t (List.length xs) k) = true then k + List.length xs * i5 t else -1) = r := by
 unfold Ff at h
 split at h
 ·rename_i hc
  obtain ⟨h1, h2, h3⟩ := Acz hc
  exact ⟨of_decide_eq_true h1, of_decide_eq_true h2, of_decide_eq_true h3, Option.some.inj h⟩
 ·cases h
theorem x6 {t : Ty} {xs : List t.D} {k : Int} (h1 : 1 ≤ k) (h2 : k ≤ 1125899906842624) (h3 : List.length xs ≤ 1125899906842624) : Ff t xs k = some (if D1 (.sl t) xs (mkL t (List.length xs) k) = true then k + List.length xs * i5 t else -1) := by
 unfold Ff
 rw [if_pos (by rw [decide_eq_true h1, decide_eq_true h2, decide_eq_true h3]; rfl)]
theorem X7 {α : Type} {f : α → α → Bool} (h : ∀ x, f x x = true) : ∀ xs, Lw f xs xs = true
 | [] => rfl
 | x :: r => by simp only [Lw, h, X7 h r, Bool.and_self]
theorem x7 (x : Int) : I0 x x = true := decide_eq_true rfl
theorem x8 (x : Bool) : eqO x x = true := by cases x <;> rfl
theorem x9 (x : ByteArray) : Lc x x = true := by unfold Lc; simp
theorem Kq : ∀ (t : Ty) (x : t.D), D1 t x x = true
 | .int _, x => x7 x
 | .bool, x => x8 x
 | .str, x => x9 x
 | .sl t, xs => X7 (Kq t) xs
 | .unit, _ => rfl
 | .pair a b, x => by
  show (D1 a x.1 x.1 && D1 b x.2 x.2) = true
  rw [Kq, Kq]
  rfl
theorem y5 {t : Ty} {x : t.D} (h : An t x = true) : Yb t x x = some true := (F7 h h).trans (congrArg some (Kq t x))
theorem Po {α σ : Type} (Inv : σ → Prop) (step : Nat → α → σ → σ) : ∀ (l : List α) (i : Nat) (s : σ), (∀ i s x, x ∈ l → Inv s → Inv (step i x s)) → Inv s → Inv (w9 step i l s)
 | [], _, _, _, h => h
 | x :: r, i, s, hs, h => Po Inv step r (i + 1) _ (fun i s y hy => hs i s y (List.mem_cons_of_mem _ hy)) (hs i s x (by simp) h)
theorem Tl {α E : Type} {n : Nat} (f : Nat → α) {g : Nat → Int → List α → Option E} {ok : List α → E}
  (hs : ∀ m (i : Nat) (r : List α), i < n → r.length = i → g (m + 1) i r = g m ((i + 1 : Nat) : Int) (r ++ [f i]))
  (he : ∀ m r, g (m + 1) (n : Int) r = some (ok r)) :
  ∀ (m i : Nat) (r : List α), i ≤ n → n - i < m → r.length = i → g m i r = some (ok (r ++ (List.range' i (n - i)).map f))
 | 0, i, r, _, hm, _ => by omega
 | m + 1, i, r, hl, hm, hr => by
  by_cases h : i < n
  ·have e : n - i = (n - (i + 1)) + 1 := by omega
   rw [hs m i r h hr, Tl f hs he m (i + 1) _ (by omega) (by omega) (by simp [hr]), e, List.range'_succ, List.map_cons, List.append_assoc]
   rfl
  ·have : i = n := by omega
   subst this
   rw [he, Nat.sub_self]
   simp
theorem Kr {α : Type} (x : α) : ∀ (n s : Nat), (List.range' s n).map (fun _ => x) = List.replicate n x
 | 0, _ => rfl
 | n + 1, s => by rw [List.range'_succ, List.map_cons, Kr x n, List.replicate_succ]
theorem Zb {s : ByteArray} {a b : Int} (h0 : 0 ≤ a) (h1 : a ≤ b) (h2 : b ≤ (s.size : Int)) : (Fb s a b).size = (b - a).toNat := by
 unfold Fb
 rw [ByteArray.size_extract]
 omega
structure Ic (d : Dk) : Prop where
 n8 : 8 ≤ d.1.length
 n200 : d.1.length ≤ 200
 p300 : d.2.1.length ≤ 300
 sec : ∀ i, i < d.1.length → (d.1.getD i z0).size = 64
 pen : ∀ i, i < d.2.1.length → 0 ≤ (d.2.1.getD i zW).1 ∧ (d.2.1.getD i zW).1 < (d.1.length : Int) ∧ (d.2.1.getD i zW).2.1.size = 64
theorem getD_set_ne {α : Type} {r : List α} {i j : Nat} {x z : α} (h : i ≠ j) : (r.set i x).getD j z = r.getD j z := by
 simp [List.getD, List.getElem?_set_ne h]
theorem Ww (sec : List ByteArray) (ws : List Wr) : (X4 sec ws).length = sec.length :=
 Po (fun s => s.length = sec.length) _ ws 0 sec (fun i s w _ h => by rw [List.length_set]; exact h) rfl
def Vj (n : Nat) (s : List ByteArray) : Prop := s.length = n ∧ ∀ i, i < n → (s.getD i z0).size = 64
theorem Vj.set {n : Nat} {s : List ByteArray} (h : Vj n s) {j : Nat} {x : ByteArray} (hx : x.size = 64) : Vj n (s.set j x) := by
 refine ⟨by rw [List.length_set]; exact h.1, fun i hi => ?_⟩
 by_cases q : j = i
 ·subst q
  rw [Dn (by rw [h.1]; exact hi)]
  exact hx
 ·rw [getD_set_ne q]
  exact h.2 i hi
def G5 : (t : Ty) → t.D → Bool
 | .int _, _ => true
 | .bool, _ => true
 | .str, s => decide (ByteArray.size s ≤ 1073741824)
 | .sl t, xs => decide (List.length xs ≤ 1073741824) && List.all xs (G5 t)
 | .unit, _ => true
 | .pair a b, x => G5 a x.1 && G5 b x.2
theorem Lg : ∀ {t : Ty} {x : t.D}, G5 t x = true → An t x = true
 | .int _, _, _ => rfl
 | .bool, _, _ => rfl
 | .str, s, h => decide_eq_true (by have := of_decide_eq_true (show decide (ByteArray.size s ≤ 1073741824) = true from h); show ByteArray.size s < _; omega)
 | .sl t, xs, h => by
  have h : (decide (List.length xs ≤ 1073741824) && List.all xs (G5 t)) = true := h
  obtain ⟨h1, h2⟩ := Jw h
  show (decide (List.length xs < 1152921504606846976) && List.all xs (An t)) = true
  rw [decide_eq_true (by have := of_decide_eq_true h1; omega), Bool.true_and]
  exact List.all_eq_true.2 fun a ha => Lg (List.all_eq_true.1 h2 a ha)
 | .unit, _, _ => rfl
 | .pair a b, x, h => by
  have h : (G5 a x.1 && G5 b x.2) = true := h
  obtain ⟨h1, h2⟩ := Jw h
  show (An a x.1 && An b x.2) = true
  rw [Lg h1, Lg h2]; rfl
theorem b8 {t : Ty} {xs : List t.D} {k : Int} (c : Nat) (hc : i5 t = c) (h1 : 1 ≤ k) (h2 : k ≤ 1125899906842624) (h3 : List.length xs ≤ 1073741824) :
  ∃ k' ys, Kn t xs k = some (k', ys) ∧ k ≤ k' ∧ k' ≤ k + 1073741824 * (c : Int) ∧ Ff t ys k = some k' := by
 refine ⟨_, _, X6 h1 h2 (by omega), ?_, ?_, ?_⟩
 ·have : (0 : Int) ≤ (List.length xs : Int) * (i5 t : Int) := Int.mul_nonneg (by omega) (by omega)
  omega
 ·rw [hc]
  have : (List.length xs : Int) * (c : Int) ≤ 1073741824 * (c : Int) := Int.mul_le_mul_of_nonneg_right (by omega) (by omega)
  omega
 ·have hl : (mkL t (List.length xs) k).length = List.length xs := x5 _ _ _ _
  rw [x6 h1 h2 (by omega), hl]
  exact congrArg some (if_pos (Kq (.sl t) _))
theorem Mk {α β : Type} {m : Option α} {f : α → Option β} {a : α} {r : Option β} (h : m = some a) (h2 : f a = r) : m.bind f = r := by
 rw [h]; exact h2
theorem Tm {α : Type} {l : List α} {z : α} {P : α → Prop} (h : ∀ i, i < l.length → P (l.getD i z)) : ∀ x ∈ l, P x := by
 intro x hx
 obtain ⟨i, hi, rfl⟩ := List.mem_iff_getElem.1 hx
 have := h i hi
 rw [List.getD_eq_getElem?_getD, List.getElem?_eq_getElem hi] at this
 exact this
abbrev tDk : Ty := .pair (.sl .str) (.pair (.sl (.pair (.int .i64) (.pair .str .unit))) .unit)
theorem y6 {n : Nat} {s : List ByteArray} (h : Vj n s) (hn : n ≤ 200) : G5 tDk (s, [], ()) = true := by
 show ((decide (s.length ≤ 1073741824) && List.all s (fun x => decide (ByteArray.size x ≤ 1073741824))) && _) = true
 rw [decide_eq_true (by have := h.1; omega)]
 have : List.all s (fun x => decide (ByteArray.size x ≤ 1073741824)) = true := List.all_eq_true.2 (Tm (z := z0) fun i hi => decide_eq_true (by rw [h.2 i (by rw [← h.1]; exact hi)]; decide))
 rw [this]
 rfl
theorem Wx (n : Int) : G5 tDk (Eb n) = true := by
 unfold Eb
 cases hv : J0 n 8 200 with
 | false => rfl
 | true =>
  have k2 := of_decide_eq_true (Jw hv).2
  refine y6 (n := n.toNat) ⟨List.length_replicate, fun i hi => ?_⟩ (by omega)
  rw [List.getD_eq_getElem?_getD, List.getElem?_replicate, if_pos hi]
  rfl
theorem Tn (a : List Int) : (strOfNums a).size = a.length := by
 unfold strOfNums
 show (List.toArray _).size = _
 simp
theorem wid (w : Int) : (bif decide (w ≥ 1) then some ((decide (w ≤ 8), ()), ()) else some ((false, ()), ())) = (some ((J0 w 1 8, ()), ()) : Option ((Bool × Unit) × Unit)) := by
 unfold J0
 by_cases h : 1 ≤ w
 ·rw [decide_eq_true (show w ≥ 1 from h)]; rfl
 ·rw [decide_eq_false (show ¬ w ≥ 1 from h)]; rfl
theorem Vk {v lo hi : Int} (h : J0 v lo hi = true) : lo ≤ v ∧ v ≤ hi := ⟨of_decide_eq_true (Jw h).1, of_decide_eq_true (Jw h).2⟩
theorem Vm (s : ByteArray) : (Aq s).length = s.size := by
 unfold Aq
 rw [List.length_map]
 rfl
theorem Vn (s : ByteArray) : Da (Aq s) = true := by
 refine List.all_eq_true.2 fun x hx => ?_
 obtain ⟨b, _, rfl⟩ := List.mem_map.1 hx
 have := b.toNat_lt
 show (decide (0 ≤ (b.toNat : Int)) && decide ((b.toNat : Int) < 256)) = true
 rw [decide_eq_true (by omega), decide_eq_true (by omega)]
 rfl
theorem Ez (a b : List Int) : Da (a ++ b) = (Da a && Da b) := List.all_append
theorem b9 (n : Nat) (h : n < 256) : Da [nI n] = true := by
 show ((decide (0 ≤ nI n) && decide (nI n < 256)) && true) = true
 rw [decide_eq_true (by simp only [nI]; omega), decide_eq_true (by simp only [nI]; omega)]
 rfl
theorem i8 {c : Chg} (h : Qn c = true) : 1 ≤ c.1.size ∧ c.1.size ≤ 20 ∧ c.2.1.size ≤ 100 := by
 obtain ⟨h1, h2⟩ := Jw h
 obtain ⟨h2, _⟩ := Jw h2
 have := Vk h1
 have := of_decide_eq_true h2
 omega
theorem Qp {c : Chg} (h : Qn c = true) : Da (i6 c) = true ∧ (i6 c).length ≤ 200 := by
 obtain ⟨k1, k2, k3⟩ := i8 h
 unfold i6
 have a1 := b9 c.1.size (by omega)
 have a2 := b9 c.2.1.size (by omega)
 have b1 : Da [1, nI c.1.size] = true := by
  rw [show [1, nI c.1.size] = [1] ++ [nI c.1.size] from rfl, Ez, a1]; rfl
 have b0 : Da [0, nI c.1.size] = true := by
  rw [show [0, nI c.1.size] = [0] ++ [nI c.1.size] from rfl, Ez, a1]; rfl
 cases c.2.2.1
 ·simp only [cond_false, Ez, b0, a2, Vn, List.length_append, Vm, List.length_cons, List.length_nil]
  exact ⟨rfl, by omega⟩
 ·simp only [cond_true, Ez, b1, Vn, List.length_append, Vm, List.length_cons, List.length_nil]
  exact ⟨rfl, by omega⟩
theorem Ui {b : List Chg} (h : G4 b = true) : b.length ≤ 20 ∧ ∀ i, i < b.length → Qn (b.getD i zC) = true := by
 obtain ⟨h1, h2⟩ := Jw h
 refine ⟨by have := (Vk h1).2; omega, fun i hi => ?_⟩
 exact List.all_eq_true.1 h2 i (List.mem_range'_1.2 ⟨by omega, by omega⟩)
def y7 (i : Nat) (r : List Int) : Prop := r.length ≤ 200 * i ∧ Da r = true
theorem y7.step {i : Nat} {r : List Int} {c : Chg} (h : y7 i r) (hc : Qn c = true) : y7 (i + 1) (r ++ i6 c) := by
 obtain ⟨q1, q2⟩ := Qp hc
 exact ⟨by rw [List.length_append]; have := h.1; omega, by rw [Ez, h.2, q1]; rfl⟩
theorem i9 {b : List Chg} (h : G4 b = true) : 1 ≤ b.length ∧ b.length ≤ 20 ∧ ∀ c ∈ b, Qn c = true := by
 obtain ⟨h1, h2⟩ := Ui h
 refine ⟨by have := (Vk (Jw h).1).1; omega, h1, Tm (z := zC) (P := fun c => Qn c = true) h2⟩
theorem j4 {a n : Int} (hn : 0 < n) : (a + n - 1) / n = 1 + (a - n + n - 1) / n := by
 have : a + n - 1 = (a - n + n - 1) + n * 1 := by omega
 rw [this, Int.add_mul_ediv_left _ _ (by omega)]
 omega
theorem Vo (n : Nat) (hn : 1 ≤ n) : ∀ (f : Nat) (s : ByteArray), s.size ≤ f → ((Ld n f s).length : Int) = if ((s.size : Int) + n - 1) / n > 1 then ((s.size : Int) + n - 1) / n else 1
 | 0, s, h => by
  have h0 : s.size = 0 := by omega
  simp only [Ld, h0]
  have : (((0 : Nat) : Int) + n - 1) / n = 0 := Int.ediv_eq_zero_of_lt (by omega) (by omega)
  exact (if_neg (by rw [this]; decide)).symm
 | f + 1, s, h => by
  by_cases q : s.size > n
  ·have hc : (Fb s n (nI s.size)).size = s.size - n := by rw [Zb (by omega) (by simp only [nI]; omega) (by simp [nI])]; simp only [nI]; omega
   simp only [Ld, if_pos q, List.length_cons]
   have ih := Vo n hn f (Fb s n (nI s.size)) (by omega)
   rw [hc] at ih
   have e := j4 (a := s.size) (n := n) (by omega)
   have e2 : ((s.size - n : Nat) : Int) = (s.size : Int) - n := by omega
   rw [e2] at ih
   have hp : 1 ≤ ((s.size : Int) - n + n - 1) / n := by
    rw [Int.le_ediv_iff_mul_le (by omega)]
    omega
   rw [e]
   generalize ((s.size : Int) - n + n - 1) / n = y at *
   rw [if_pos (by omega)]
   split at ih <;> omega
  ·simp only [Ld, if_neg q]
   have : ((s.size : Int) + n - 1) / n < 2 := by
    rw [Int.ediv_lt_iff_lt_mul (by omega)]
    omega
   exact (if_neg (by omega)).symm
theorem Zc {s : ByteArray} {w : Int} (hw : J0 w 1 8 = true) : ((Wt s w).length : Int) = if ((s.size : Int) + (56 - w) - 1) / (56 - w) > 1 then ((s.size : Int) + (56 - w) - 1) / (56 - w) else 1 := by
 obtain ⟨h1, h2⟩ := Vk hw
 obtain ⟨n, hn⟩ : ∃ n : Nat, 56 - w = (n : Int) := ⟨(56 - w).toNat, by omega⟩
 unfold Wt
 rw [hn, Int.toNat_natCast]
 exact Vo n (by omega) s.size s (Nat.le_refl _)
theorem Qq (life w : Int) : ∀ (L : List ByteArray) (k : Int), b7 life w k L = (List.range' 0 L.length).map (fun i => Qo ((if i + 1 = L.length then 2 else 1), life, k + (i : Int), L.getD i z0, ()) w)
 | [], k => rfl
 | [p], k => by
  show [Qo (2, life, k, p, ()) w] = [Qo ((if 0 + 1 = 1 then 2 else 1), life, k + ((0 : Nat) : Int), p, ()) w]
  rw [if_pos rfl, show k + ((0 : Nat) : Int) = k by omega]
 | p :: q :: r, k => by
  have ih := Qq life w (q :: r) (k + 1)
  show Qo (1, life, k, p, ()) w :: b7 life w (k + 1) (q :: r) = (List.range' 0 ((q :: r).length + 1)).map (fun i => Qo ((if i + 1 = (q :: r).length + 1 then 2 else 1), life, k + (i : Int), (p :: q :: r).getD i z0, ()) w)
  rw [ih, List.range'_succ, List.map_cons]
  congr 1
  ·rw [if_neg (by rw [List.length_cons]; omega), show k + ((0 : Nat) : Int) = k by omega]
   rfl
  ·rw [show List.range' (0 + 1) (q :: r).length = List.map (fun x => 1 + x) (List.range' 0 (q :: r).length) by rw [List.map_add_range'], List.map_map]
   refine List.map_congr_left fun i _ => ?_
   show _ = Qo ((if 1 + i + 1 = (q :: r).length + 1 then 2 else 1), life, k + ((1 + i : Nat) : Int), (p :: q :: r).getD (1 + i) z0, ()) w
   rw [show k + ((1 + i : Nat) : Int) = k + 1 + (i : Int) by omega, show 1 + i = i + 1 by omega]
   by_cases e : i + 1 = (q :: r).length
   ·rw [if_pos e, if_pos (by omega)]; rfl
   ·rw [if_neg e, if_neg (by omega)]; rfl
theorem Ic.sync {d : Dk} (h : Ic d) : Ic (Abl d) := by
 have hl := Ww d.1 d.2.1
 have hs : Vj d.1.length (X4 d.1 d.2.1) := Po (Vj d.1.length) _ d.2.1 0 d.1 (fun i s w hw hI => hI.set (Tm (z := zW) (P := fun w : Wr => w.2.1.size = 64) (fun i hi => (h.pen i hi).2.2) w hw)) ⟨rfl, h.sec⟩
 exact ⟨by show 8 ≤ (X4 d.1 d.2.1).length; rw [hl]; exact h.n8, by show (X4 d.1 d.2.1).length ≤ 200; rw [hl]; exact h.n200, by show (0 : Nat) ≤ 300; omega, fun i hi => hs.2 i (by rw [← hl]; exact hi), fun i hi => absurd hi (by show ¬ i < 0; omega)⟩
theorem Ic.op {d : Dk} (h : Ic d) (o : Opn) : Ic (opS d o) := by
 unfold opS
 cases o.1 with
 | true => exact h.sync
 | false =>
  cases hc : Acs d.1.length (o.2.1, o.2.2.1, ()) && decide (d.2.1.length < 300) with
  | false => exact h
  | true =>
   obtain ⟨h1, h2⟩ := Jw hc
   obtain ⟨q1, q2⟩ := Jw h1
   obtain ⟨q2, q3⟩ := Jw q2
   have h2 := of_decide_eq_true h2
   refine ⟨h.n8, h.n200, by show (d.2.1 ++ [(o.2.1, o.2.2.1, ())]).length ≤ 300; rw [List.length_append, List.length_singleton]; omega, h.sec, fun i hi => ?_⟩
   have hi : i < d.2.1.length + 1 := by
    have hi : i < (d.2.1 ++ [(o.2.1, o.2.2.1, ())]).length := hi
    rw [List.length_append, List.length_singleton] at hi
    exact hi
   show 0 ≤ ((d.2.1 ++ [(o.2.1, o.2.2.1, ())]).getD i zW).1 ∧ ((d.2.1 ++ [(o.2.1, o.2.2.1, ())]).getD i zW).1 < (d.1.length : Int) ∧ ((d.2.1 ++ [(o.2.1, o.2.2.1, ())]).getD i zW).2.1.size = 64
   by_cases e : i < d.2.1.length
   ·have : (d.2.1 ++ [(o.2.1, o.2.2.1, ())]).getD i zW = d.2.1.getD i zW := by
     rw [List.getD_eq_getElem?_getD, List.getElem?_append_left e, ← List.getD_eq_getElem?_getD]
    rw [this]
    exact h.pen i e
   ·obtain rfl : i = d.2.1.length := by omega
    have : (d.2.1 ++ [(o.2.1, o.2.2.1, ())]).getD d.2.1.length zW = (o.2.1, o.2.2.1, ()) := by
     rw [List.getD_eq_getElem?_getD, List.getElem?_append_right (Nat.le_refl _), Nat.sub_self]
     rfl
    rw [this]
    exact ⟨of_decide_eq_true q1, of_decide_eq_true q2, of_decide_eq_true q3⟩
theorem Ic.ops : ∀ (l : List Opn) {d : Dk}, Ic d → Ic (l.foldl opS d)
 | [], _, h => h
 | o :: r, _, h => Ic.ops r (h.op o)
end Go.Proofs.Ytkfoebbjncngjaa.V

