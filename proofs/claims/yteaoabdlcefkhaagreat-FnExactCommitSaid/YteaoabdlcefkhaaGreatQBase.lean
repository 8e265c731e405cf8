/- Plain facts. No condition. -/
import Derived.Test.YteaoabdlcefkhaaGreatMBase
namespace Go.Proofs.YteaoabdlcefkhaaGreat.V
open Go Go.Proofs.YteaoabdlcefkhaaGreat.R
set_option linter.unusedVariables false
set_option linter.unusedSimpArgs false
theorem Ae {n : Int} (h0 : -9223372036854775808 ≤ n) (h1 : n < 9223372036854775808) : IntKind.i64.wrap n = n := by
 have e : IntKind.i64.wrap n = if n % 18446744073709551616 ≥ 9223372036854775808 then n % 18446744073709551616 - 18446744073709551616 else n % 18446744073709551616 := by
  simp [IntKind.wrap, IntKind.bits, IntKind.signed]
 rw [e]
 split <;> omega
theorem Iv {α : Type} (xs : List α) (i : Nat) (z : α) (h : i < xs.length) : xs.drop i = xs.getD i z :: xs.drop (i + 1) := by
 rw [List.drop_eq_getElem_cons h]
 simp [List.getD, List.getElem?_eq_getElem h]
theorem K0 {α : Type} {xs : List α} {i : Nat} (z : α) (h : i < xs.length) : xs.getD i z ∈ xs := by
 simp [List.getD, List.getElem?_eq_getElem h]
theorem Pw {i n : Nat} (h : i < n) : decide ((i : Int) < nI n) = true := by simp [nI]; omega
theorem I6 {n : Nat} : decide ((n : Int) < nI n) = false := by simp [nI]
theorem Gk {i : Nat} : decide ((0 : Int) ≤ (i : Int)) = true := by simp
theorem Ap1 {i n : Nat} (h : i < n) : decide (i < n) = true := by simp [h]
theorem wI {i : Nat} (h : i < 4611686018427387904) : IntKind.i64.wrap ((i : Int) + 1) = ((i + 1 : Nat) : Int) := by rw [Ae (by omega) (by omega)]; rfl
theorem Ahs {α E : Type} {xs : List α} (z : α) (w : α → Nat) {g : Nat → Int → Int → Option E} {ok : Int → E} {bad : E}
  (hs : ∀ m (i : Nat) l, i < xs.length → 0 ≤ l → l ≤ 1048576 → g (m + 1) l i = bif decide (l - (w (xs.getD i z) : Int) < 0) then some bad else g m (l - w (xs.getD i z)) ((i + 1 : Nat) : Int))
  (he : ∀ m l, g (m + 1) l (xs.length : Int) = some (ok l)) :
  ∀ (m i : Nat) (l : Int), i ≤ xs.length → xs.length - i < m → 0 ≤ l → l ≤ 1048576 → g m l i = some (if l - (((xs.drop i).map w).sum : Int) < 0 then bad else ok (l - ((xs.drop i).map w).sum))
 | 0, i, l, hi, hm, _, _ => by omega
 | m + 1, i, l, hi, hm, h0, h1 => by
  by_cases h : i < xs.length
  ·rw [hs m i l h h0 h1, Iv xs i z h, List.map_cons, List.sum_cons, Int.natCast_add (w (xs.getD i z))]
   by_cases q : l - (w (xs.getD i z) : Int) < 0
   ·have q2 : l - ((w (xs.getD i z) : Int) + (((xs.drop (i + 1)).map w).sum : Int)) < 0 := by omega
    rw [decide_eq_true q, cond_true, if_pos q2]
   ·rw [decide_eq_false q, cond_false, Ahs z w hs he m (i + 1) _ (by omega) (by omega) (by omega) (by omega)]
    simp only [Int.sub_sub]
  ·have : i = xs.length := by omega
   subst this
   rw [he]
   simp only [List.drop_length, List.map_nil, List.sum_nil]
   have : ¬ (l - ((0 : Nat) : Int) < 0) := by simp; omega
   rw [if_neg this]
   simp
theorem Aht {α E : Type} {xs : List α} (z : α) {g : Nat → Int → List α → Option E} {ok : List α → E}
  (hs : ∀ m (i : Nat) (r : List α), i < xs.length → r.length = xs.length → g (m + 1) i r = g m ((i + 1 : Nat) : Int) (r.set i (xs.getD i z)))
  (he : ∀ m r, g (m + 1) (xs.length : Int) r = some (ok r)) :
  ∀ (m i : Nat) (r : List α), i ≤ xs.length → xs.length - i < m → r.length = xs.length → g m i r = some (ok (r.take i ++ xs.drop i))
 | 0, i, l, hi, hm, _ => by omega
 | m + 1, i, r, hi, hm, hr => by
  by_cases h : i < xs.length
  ·rw [hs m i r h hr, Aht z hs he m (i + 1) _ (by omega) (by omega) (by simp [hr]), Iv xs i z h]
   have : (r.set i (xs.getD i z)).take (i + 1) = r.take i ++ [xs.getD i z] := by
    rw [List.take_add_one, List.take_set_of_le (Nat.le_refl i), List.getElem?_set_self (by omega)]
    rfl
   rw [this, List.append_assoc]
   rfl
  ·have : i = xs.length := by omega
   subst this
   rw [he, List.drop_length, List.append_nil, ← hr, List.take_length]
theorem Aaz {α : Type} {f : α → α → Bool} : ∀ {xs ys : List α}, xs.length ≠ ys.length → j5 f xs ys = false
 | [], [], h => absurd rfl h
 | [], _ :: _, _ => rfl
 | _ :: _, [], _ => rfl
 | x :: xs, y :: ys, h => by
  simp only [j5]
  rw [Aaz (by simpa using h), Bool.and_false]
theorem Aa0 {α E : Type} {xs ys : List α} (z : α) (f : α → α → Bool) {g : Nat → Int → Option E} {ok bad : E} (hl : ys.length = xs.length)
  (hs : ∀ m (i : Nat), i < xs.length → g (m + 1) i = bif f (xs.getD i z) (ys.getD i z) then g m ((i + 1 : Nat) : Int) else some bad)
  (he : ∀ m, g (m + 1) (xs.length : Int) = some ok) :
  ∀ (m i : Nat), i ≤ xs.length → xs.length - i < m → g m i = some (bif j5 f (xs.drop i) (ys.drop i) then ok else bad)
 | 0, i, hi, hm => by omega
 | m + 1, i, hi, hm => by
  by_cases h : i < xs.length
  ·rw [hs m i h, Iv xs i z h, Iv ys i z (by omega)]
   simp only [j5]
   cases f (xs.getD i z) (ys.getD i z) with
   | false => rfl
   | true =>
    rw [cond_true, Aa0 z f hl hs he m (i + 1) (by omega) (by omega), Bool.true_and]
  ·have : i = xs.length := by omega
   subst this
   have hy : ys.drop xs.length = [] := List.drop_eq_nil_of_le (by omega)
   rw [he, List.drop_length, hy]
   rfl
theorem Sb {E : Type} {n : Nat} {g : Nat → Int → Option E} {ok bad : E} (p : Nat → Bool)
  (hs : ∀ m (i : Nat), i < n → g (m + 1) i = bif p i then g m ((i + 1 : Nat) : Int) else some bad)
  (he : ∀ m, g (m + 1) (n : Int) = some ok) :
  ∀ (m i : Nat), i ≤ n → n - i < m → g m i = some (bif (List.range' i (n - i)).all p then ok else bad)
 | 0, i, hi, hm => by omega
 | m + 1, i, hi, hm => by
  by_cases h : i < n
  ·have e : n - i = (n - (i + 1)) + 1 := by omega
   rw [hs m i h, e, List.range'_succ, List.all_cons]
   cases p i with
   | false => rfl
   | true =>
    rw [cond_true, Sb p hs he m (i + 1) (by omega) (by omega), Bool.true_and]
  ·have : i = n := by omega
   subst this
   rw [he, Nat.sub_self]
   rfl
theorem Asx {a b c : Bool} (h : (a && b && c) = true) : a = true ∧ b = true ∧ c = true := by
 cases a <;> cases b <;> cases c <;> first | exact ⟨rfl, rfl, rfl⟩ | cases h
theorem Cq {a b : Bool} (h : (a && b) = true) : a = true ∧ b = true := by
 cases a <;> cases b <;> first | exact ⟨rfl, rfl⟩ | cases h
theorem K1 {t : Ty} {xs : List t.D} (h : Al (.sl t) xs = true) : List.length xs < 1152921504606846976 ∧ ∀ x ∈ xs, Al t x = true := by
 obtain ⟨h1, h2⟩ := Cq h
 exact ⟨of_decide_eq_true h1, List.all_eq_true.1 h2⟩
theorem Agb {t : Ty} {xs : List t.D} (h : Dl (.sl t) xs = true) : List.length xs ≤ 1048576 ∧ ∀ x ∈ xs, Dl t x = true := by
 obtain ⟨h1, h2⟩ := Cq h
 exact ⟨of_decide_eq_true h1, List.all_eq_true.1 h2⟩
theorem Ab {a b : Ty} {x : a.D × b.D} (h : Al (.pair a b) x = true) : Al a x.1 = true ∧ Al b x.2 = true := Cq h
theorem F9 {a b : Ty} {x : a.D × b.D} (h : Dl (.pair a b) x = true) : Dl a x.1 = true ∧ Dl b x.2 = true := Cq h
theorem Tl {x : ByteArray} (h : Al .str x = true) : ByteArray.size x < 1152921504606846976 := of_decide_eq_true h
theorem O4 {t : Ty} {x : t.D} {l r : Int} (h : szM t x l = some r) : Al t x = true ∧ 0 ≤ l ∧ l ≤ 1048576 ∧ (if l - (wt t x : Int) < 0 then -1 else l - (wt t x : Int)) = r := by
 unfold szM at h
 split at h
 ·rename_i hc
  obtain ⟨h1, h2, h3⟩ := Asx hc
  exact ⟨h1, of_decide_eq_true h2, of_decide_eq_true h3, Option.some.inj h⟩
 ·cases h
theorem Acg {t : Ty} {x : t.D} {l : Int} (h1 : Al t x = true) (h2 : 0 ≤ l) (h3 : l ≤ 1048576) : szM t x l = some (if l - (wt t x : Int) < 0 then -1 else l - (wt t x : Int)) := by
 unfold szM
 rw [if_pos (by rw [h1, decide_eq_true h2, decide_eq_true h3]; rfl)]
theorem Mf {t : Ty} {x r : t.D} (h : toM t x = some r) : Dl t x = true ∧ x = r := by
 unfold toM at h
 split at h
 ·exact ⟨by assumption, Option.some.inj h⟩
 ·cases h
theorem Ahu {t : Ty} {x : t.D} (h : Dl t x = true) : toM t x = some x := if_pos h
theorem Hy {t : Ty} {x y : t.D} {r : Bool} (h : eqM t x y = some r) : Al t x = true ∧ Al t y = true ∧ J2 t x y = r := by
 unfold eqM at h
 split at h
 ·rename_i hc
  obtain ⟨h1, h2⟩ := Cq hc
  exact ⟨h1, h2, Option.some.inj h⟩
 ·cases h
theorem Sc {t : Ty} {x y : t.D} (h1 : Al t x = true) (h2 : Al t y = true) : eqM t x y = some (J2 t x y) := by
 unfold eqM
 rw [if_pos (by rw [h1, h2]; rfl)]
theorem m9 (a b : Int) : (a != b) = !Pu a b := by
 unfold Pu
 by_cases h : a = b <;> simp [h, bne]
theorem Gg {α : Type} {r : List α} {i : Nat} {x z : α} (h : i < r.length) : (r.set i x).getD i z = x := by
 simp [List.getD, h]
theorem Ap2 {k : Int} (h : 0 ≤ k) : (Int.tmod k 3 == 0) = decide (k % 3 = 0) := by
 rw [Int.tmod_eq_emod_of_nonneg h]
 rfl
theorem Tm {α E : Type} (e : Int → α) (c : Nat) {n : Nat} {K : Int} {g : Nat → Int → Int → List α → Option E} {ok : Int → List α → E}
  (hs : ∀ m (i : Nat) (k : Int) (r : List α), i < n → r.length = n → 1 ≤ k → k + (n - i : Nat) * c ≤ K → g (m + 1) k i r = g m (k + c) ((i + 1 : Nat) : Int) (r.set i (e k)))
  (he : ∀ m k r, r.length = n → g (m + 1) k (n : Int) r = some (ok k r)) :
  ∀ (m i : Nat) (k : Int) (r : List α), i ≤ n → n - i < m → r.length = n → 1 ≤ k → k + (n - i : Nat) * c ≤ K → g m k i r = some (ok (k + (n - i : Nat) * c) (r.take i ++ gL e c (n - i) k))
 | 0, i, k, r, hi, hm, _, _, _ => by omega
 | m + 1, i, k, r, hi, hm, hr, h1, hK => by
  by_cases h : i < n
  ·have q : n - i = (n - (i + 1)) + 1 := by omega
   have hK2 : k + (c : Int) + (n - (i + 1) : Nat) * c = k + (n - i : Nat) * c := by
    rw [q, Int.natCast_add, Int.add_mul]
    simp only [Int.natCast_one, Int.one_mul]
    omega
   rw [hs m i k r h hr h1 hK, Tm e c hs he m (i + 1) _ _ (by omega) (by omega) (by simp [hr]) (by omega) (by rw [hK2]; exact hK), hK2]
   have h2 : (r.set i (e k)).take (i + 1) = r.take i ++ [e k] := by
    rw [List.take_add_one, List.take_set_of_le (Nat.le_refl i), List.getElem?_set_self (by omega)]
    rfl
   rw [h2, List.append_assoc]
   have h3 : gL e c (n - i) k = e k :: gL e c (n - (i + 1)) (k + c) := by rw [q]; rfl
   rw [h3]
   rfl
  ·have : i = n := by omega
   subst this
   rw [he _ _ _ hr, Nat.sub_self]
   simp [gL, ← hr]
theorem Ze {α E : Type} {xs : List α} (z : α) (f : α → α → Bool) (e : Int → α) (c : Nat) {K : Int} {g : Nat → Int → Int → Option E} {ok : Int → E} {bad : E}
  (hs : ∀ m (i : Nat) (k : Int), i < xs.length → 1 ≤ k → k + (xs.length - i : Nat) * c ≤ K → g (m + 1) k i = bif f (xs.getD i z) (e k) then g m (k + c) ((i + 1 : Nat) : Int) else some bad)
  (he : ∀ m k, g (m + 1) k (xs.length : Int) = some (ok k)) :
  ∀ (m i : Nat) (k : Int), i ≤ xs.length → xs.length - i < m → 1 ≤ k → k + (xs.length - i : Nat) * c ≤ K → g m k i = some (bif j5 f (xs.drop i) (gL e c (xs.length - i) k) then ok (k + (xs.length - i : Nat) * c) else bad)
 | 0, i, k, hi, hm, _, _ => by omega
 | m + 1, i, k, hi, hm, h1, hK => by
  by_cases h : i < xs.length
  ·have q : xs.length - i = (xs.length - (i + 1)) + 1 := by omega
   have hK2 : k + (c : Int) + (xs.length - (i + 1) : Nat) * c = k + (xs.length - i : Nat) * c := by
    rw [q, Int.natCast_add, Int.add_mul]
    simp only [Int.natCast_one, Int.one_mul]
    omega
   have h3 : gL e c (xs.length - i) k = e k :: gL e c (xs.length - (i + 1)) (k + c) := by rw [q]; rfl
   rw [hs m i k h h1 hK, Iv xs i z h, h3]
   simp only [j5]
   cases f (xs.getD i z) (e k) with
   | false => rfl
   | true => rw [cond_true, Ze z f e c hs he m (i + 1) _ (by omega) (by omega) (by omega) (by rw [hK2]; exact hK), hK2, Bool.true_and]
  ·have : i = xs.length := by omega
   subst this
   rw [he, Nat.sub_self, List.drop_length]
   simp [gL, j5]
theorem Ap3 {α : Type} (e : Int → α) (c : Nat) : ∀ n k, (gL e c n k).length = n
 | 0, _ => rfl
 | n + 1, k => by simp [gL, Ap3 e c n]
theorem Va {t : Ty} {xs : List t.D} {k : Int} {r : Int × List t.D} (h : Hs t xs k = some r) : 1 ≤ k ∧ k ≤ 1125899906842624 ∧ List.length xs ≤ 1125899906842624 ∧ (k + List.length xs * mkN t, mkL t (List.length xs) k) = r := by
 unfold Hs at h
 split at h
 ·rename_i hc
  obtain ⟨h1, h2, h3⟩ := Asx hc
  exact ⟨of_decide_eq_true h1, of_decide_eq_true h2, of_decide_eq_true h3, Option.some.inj h⟩
 ·cases h
theorem Ap4 {t : Ty} {xs : List t.D} {k : Int} (h1 : 1 ≤ k) (h2 : k ≤ 1125899906842624) (h3 : List.length xs ≤ 1125899906842624) : Hs t xs k = some (k + List.length xs * mkN t, mkL t (List.length xs) k) := by
 unfold Hs
 rw [if_pos (by rw [decide_eq_true h1, decide_eq_true h2, decide_eq_true h3]; rfl)]
theorem Ach {t : Ty} {xs : List t.D} {k : Int} {r : Int} (h : I4 t xs k = some r) : 1 ≤ k ∧ k ≤ 1125899906842624 ∧ List.length xs ≤ 1125899906842624 ∧ (if J2 (.sl t) xs (mkL t (List.length xs) k) = true then k + List.length xs * mkN t else -1) = r := by
 unfold I4 at h
 split at h
 ·rename_i hc
  obtain ⟨h1, h2, h3⟩ := Asx hc
  exact ⟨of_decide_eq_true h1, of_decide_eq_true h2, of_decide_eq_true h3, Option.some.inj h⟩
 ·cases h
theorem Ap5 {t : Ty} {xs : List t.D} {k : Int} (h1 : 1 ≤ k) (h2 : k ≤ 1125899906842624) (h3 : List.length xs ≤ 1125899906842624) : I4 t xs k = some (if J2 (.sl t) xs (mkL t (List.length xs) k) = true then k + List.length xs * mkN t else -1) := by
 unfold I4
 rw [if_pos (by rw [decide_eq_true h1, decide_eq_true h2, decide_eq_true h3]; rfl)]
theorem Agc (n : Nat) (c : Nat) : decide (nI n > (c : Int)) = !decide (n ≤ c) := by
 by_cases q : n ≤ c
 ·have : ¬ (nI n > (c : Int)) := by simp [nI]; omega
  rw [decide_eq_true q, decide_eq_false this]; rfl
 ·have : nI n > (c : Int) := by simp [nI]; omega
  rw [decide_eq_false q, decide_eq_true this]; rfl
theorem gt0 (i : Nat) : decide ((i : Int) > 0) = !(i == 0) := by
 cases i with
 | zero => rfl
 | succ j =>
  have : ((j + 1 : Nat) : Int) > 0 := by omega
  rw [decide_eq_true this]; rfl
theorem wP (j : Nat) (h : j < 4611686018427387904) : IntKind.i64.wrap (((j + 1 : Nat) : Int) - 1) = (j : Int) := by rw [Ae (by omega) (by omega)]; omega
theorem W1 : ∀ {t : Ty} {x : t.D}, Ud t x → Al t x = true
 | .int _, _, _ => rfl
 | .bool, _, _ => rfl
 | .str, s, h => by
  have h : ByteArray.size s ≤ reachBytes := h
  have : reachBytes < 1152921504606846976 := by decide
  exact decide_eq_true (by omega)
 | .sl t, xs, h => by
  obtain ⟨h1, h2⟩ := h
  have : reachBytes < 1152921504606846976 := by decide
  show (decide (List.length xs < 1152921504606846976) && List.all xs (Al t)) = true
  rw [decide_eq_true (by omega), Bool.true_and]
  refine List.all_eq_true.2 fun x hx => ?_
  obtain ⟨i, hi, rfl⟩ := List.mem_iff_getElem.1 hx
  exact W1 (h2 i _ (List.getElem?_eq_getElem hi))
 | .unit, _, _ => rfl
 | .pair a b, x, h => by
  show (Al a x.1 && Al b x.2) = true
  rw [W1 h.1, W1 h.2]
  rfl
theorem Am9 {α : Type} (f : α → Nat) : ∀ {xs : List α} {x : α}, x ∈ xs → f x ≤ (xs.map f).sum
 | [], _, h => by cases h
 | y :: r, x, h => by
  rw [List.map_cons, List.sum_cons]
  rcases List.mem_cons.1 h with rfl | h
  ·omega
  ·have := Am9 f h
   omega
theorem W2 : ∀ {t : Ty} {x : t.D}, wt t x ≤ 1048576 → Dl t x = true
 | .int _, _, _ => rfl
 | .bool, _, _ => rfl
 | .str, _, _ => rfl
 | .sl t, xs, h => by
  have h : List.length xs + (List.map (wt t) xs).sum ≤ 1048576 := h
  show (decide (List.length xs ≤ 1048576) && List.all xs (Dl t)) = true
  rw [decide_eq_true (by omega), Bool.true_and]
  refine List.all_eq_true.2 fun x hx => W2 ?_
  have := Am9 (wt t) hx
  omega
 | .unit, _, _ => rfl
 | .pair a b, x, h => by
  have h : wt a x.1 + wt b x.2 ≤ 1048576 := h
  show (Dl a x.1 && Dl b x.2) = true
  rw [W2 (by omega), W2 (by omega)]
  rfl
theorem Ajq {α : Type} {f : α → α → Bool} (h : ∀ x, f x x = true) : ∀ xs, j5 f xs xs = true
 | [] => rfl
 | x :: r => by simp only [j5, h, Ajq h r, Bool.and_self]
theorem Ap6 (x : Int) : Pu x x = true := decide_eq_true rfl
theorem Ap7 (x : Bool) : eqO x x = true := by cases x <;> rfl
theorem Ap8 (x : ByteArray) : Zc x x = true := by unfold Zc; simp
theorem Sd : ∀ (t : Ty) (x : t.D), J2 t x x = true
 | .int _, x => Ap6 x
 | .bool, x => Ap7 x
 | .str, x => Ap8 x
 | .sl t, xs => Ajq (Sd t) xs
 | .unit, _ => rfl
 | .pair a b, x => by
  show (J2 a x.1 x.1 && J2 b x.2 x.2) = true
  rw [Sd, Sd]
  rfl
theorem Aci {t : Ty} {x : t.D} (h : Al t x = true) : eqM t x x = some true := (Sc h h).trans (congrArg some (Sd t x))
theorem Ajr {t : Ty} {x : t.D} {l0 : Int} (h : Al t x = true) (h0 : 0 ≤ l0) (h1 : l0 ≤ 1048576) {m : Option Int} (hm : m = szM t x l0) :
  m = some (-1) ∨ ∃ l : Int, m = some l ∧ 0 ≤ l ∧ l ≤ 1048576 ∧ Dl t x = true ∧ decide (l < 0) = false := by
 subst hm
 rw [Acg h h0 h1]
 by_cases q : l0 - (wt t x : Int) < 0
 ·rw [if_pos q]; exact .inl rfl
 ·rw [if_neg q]
  exact .inr ⟨_, rfl, by omega, by omega, W2 (by omega), decide_eq_false q⟩
theorem Ar8 : decide ((-1 : Int) < 0) = true := rfl
theorem Zf {α σ : Type} (Inv : σ → Prop) (step : Nat → α → σ → σ) : ∀ (l : List α) (i : Nat) (s : σ), (∀ i s x, x ∈ l → Inv s → Inv (step i x s)) → Inv s → Inv (Fw step i l s)
 | [], _, _, _, h => h
 | x :: r, i, s, hs, h => Zf Inv step r (i + 1) _ (fun i s y hy => hs i s y (List.mem_cons_of_mem _ hy)) (hs i s x (by simp) h)
theorem Zg {n : Nat} {p : Nat → Bool} (h : (List.range' 0 n).all p = true) (i : Nat) (hi : i < n) : p i = true := List.all_eq_true.1 h i (by simp [List.mem_range']; omega)
theorem Vb {s : ByteArray} {a b : Int} (h0 : 0 ≤ a) (h1 : a ≤ b) (h2 : b ≤ (s.size : Int)) : (Cj s a b).size = (b - a).toNat := by
 unfold Cj
 rw [ByteArray.size_extract]
 omega
structure Oh (d : Dk) : Prop where
 n8 : 8 ≤ d.1.length
 n200 : d.1.length ≤ 200
 p300 : d.2.1.length ≤ 300
 sec : ∀ i, i < d.1.length → (d.1.getD i z0).size = 64
 pen : ∀ i, i < d.2.1.length → 0 ≤ (d.2.1.getD i zW).1 ∧ (d.2.1.getD i zW).1 < (d.1.length : Int) ∧ (d.2.1.getD i zW).2.1.size = 64
theorem Acj {α : Type} {xs : List α} {x : α} (z : α) (h : x ∈ xs) : ∃ i, i < xs.length ∧ xs.getD i z = x := by
 obtain ⟨i, hi, rfl⟩ := List.mem_iff_getElem.1 h
 exact ⟨i, hi, by simp [List.getD, List.getElem?_eq_getElem hi]⟩
theorem getD_set_ne {α : Type} {r : List α} {i j : Nat} {x z : α} (h : i ≠ j) : (r.set i x).getD j z = r.getD j z := by
 simp [List.getD, List.getElem?_set_ne h]
theorem Ahv (sec : List ByteArray) (ws : List Wr) : (Ajp sec ws).length = sec.length :=
 Zf (fun s => s.length = sec.length) _ ws 0 sec (fun i s w _ h => by rw [List.length_set]; exact h) rfl
def Ajs (n : Nat) (s : List ByteArray) : Prop := s.length = n ∧ ∀ i, i < n → (s.getD i z0).size = 64
theorem Ajs.set {n : Nat} {s : List ByteArray} (h : Ajs n s) {j : Nat} {x : ByteArray} (hx : x.size = 64) : Ajs n (s.set j x) := by
 refine ⟨by rw [List.length_set]; exact h.1, fun i hi => ?_⟩
 by_cases q : j = i
 ·subst q
  rw [Gg (by rw [h.1]; exact hi)]
  exact hx
 ·rw [getD_set_ne q]
  exact h.2 i hi
def G4 : (t : Ty) → t.D → Bool
 | .int _, _ => true
 | .bool, _ => true
 | .str, s => decide (ByteArray.size s ≤ 1073741824)
 | .sl t, xs => decide (List.length xs ≤ 1073741824) && List.all xs (G4 t)
 | .unit, _ => true
 | .pair a b, x => G4 a x.1 && G4 b x.2
theorem Tn : ∀ {t : Ty} {x : t.D}, G4 t x = true → Al t x = true
 | .int _, _, _ => rfl
 | .bool, _, _ => rfl
 | .str, s, h => decide_eq_true (by have := of_decide_eq_true (show decide (ByteArray.size s ≤ 1073741824) = true from h); show ByteArray.size s < _; omega)
 | .sl t, xs, h => by
  have h : (decide (List.length xs ≤ 1073741824) && List.all xs (G4 t)) = true := h
  obtain ⟨h1, h2⟩ := Cq h
  show (decide (List.length xs < 1152921504606846976) && List.all xs (Al t)) = true
  rw [decide_eq_true (by have := of_decide_eq_true h1; omega), Bool.true_and]
  exact List.all_eq_true.2 fun a ha => Tn (List.all_eq_true.1 h2 a ha)
 | .unit, _, _ => rfl
 | .pair a b, x, h => by
  have h : (G4 a x.1 && G4 b x.2) = true := h
  obtain ⟨h1, h2⟩ := Cq h
  show (Al a x.1 && Al b x.2) = true
  rw [Tn h1, Tn h2]; rfl
theorem Ana {t : Ty} {xs : List t.D} {k : Int} (c : Nat) (hc : mkN t = c) (h1 : 1 ≤ k) (h2 : k ≤ 1125899906842624) (h3 : List.length xs ≤ 1073741824) :
  ∃ k' ys, Hs t xs k = some (k', ys) ∧ k ≤ k' ∧ k' ≤ k + 1073741824 * (c : Int) ∧ I4 t ys k = some k' := by
 refine ⟨_, _, Ap4 h1 h2 (by omega), ?_, ?_, ?_⟩
 ·have : (0 : Int) ≤ (List.length xs : Int) * (mkN t : Int) := Int.mul_nonneg (by omega) (by omega)
  omega
 ·rw [hc]
  have : (List.length xs : Int) * (c : Int) ≤ 1073741824 * (c : Int) := Int.mul_le_mul_of_nonneg_right (by omega) (by omega)
  omega
 ·have hl : (mkL t (List.length xs) k).length = List.length xs := Ap3 _ _ _ _
  rw [Ap5 h1 h2 (by omega), hl]
  exact congrArg some (if_pos (Sd (.sl t) _))
theorem Tu {α β : Type} {m : Option α} {f : α → Option β} {a : α} {r : Option β} (h : m = some a) (h2 : f a = r) : m.bind f = r := by
 rw [h]; exact h2
theorem Ajt {α : Type} {l : List α} {z : α} {P : α → Prop} (h : ∀ i, i < l.length → P (l.getD i z)) : ∀ x ∈ l, P x := by
 intro x hx
 obtain ⟨i, hi, rfl⟩ := List.mem_iff_getElem.1 hx
 have := h i hi
 rw [List.getD_eq_getElem?_getD, List.getElem?_eq_getElem hi] at this
 exact this
theorem Ue (a b : List Int) : strOfNums (a ++ b) = strOfNums a ++ strOfNums b := by
 unfold strOfNums
 rw [List.map_append]
 apply ByteArray.ext
 simp
theorem C3 (a : List Int) : (strOfNums a).size = a.length := by
 unfold strOfNums
 show (List.toArray _).size = _
 simp
theorem Se (v : Int) : ∀ n, (Me v n).length = n
 | 0 => rfl
 | n + 1 => by simp only [Me, List.length_append, Se (v / 256) n, List.length_singleton]
theorem G5 (v : Int) (n : Nat) : (Cl v n).size = n := by unfold Cl; rw [C3, Se]
theorem Aju (v : Int) (out : ByteArray) : Cl v 0 ++ out = out := by
 apply ByteArray.ext
 simp [Cl, Me, strOfNums]
theorem Ap9 (s : ByteArray) : s ++ ByteArray.mk #[] = s := by
 apply ByteArray.ext
 simp
theorem Ajv (v : Int) (k : Nat) : Cl v (k + 1) = Cl (v / 256) k ++ strOfNums [v % 256] := by
 unfold Cl
 rw [← Ue]
 rfl
theorem To {σ ρ : Type} (n : Nat) (Inv : Nat → σ → Prop) (step : Nat → σ → σ) {g : Nat → Nat → σ → Option ρ} {ok : σ → ρ}
  (hs : ∀ m i s, i < n → Inv i s → g (m + 1) i s = g m (i + 1) (step i s)) (he : ∀ m s, Inv n s → g (m + 1) n s = some (ok s))
  (hI : ∀ i s, i < n → Inv i s → Inv (i + 1) (step i s)) : ∀ k m i s, i + k = n → k < m → Inv i s → g m i s = some (ok (iter step k i s))
 | 0, m + 1, i, s, hi, _, h => by
  obtain rfl : i = n := by omega
  exact he m s h
 | k + 1, m + 1, i, s, hi, hm, h => by
  rw [hs m i s (by omega) h]
  exact To n Inv step hs he hI k m (i + 1) _ (by omega) (by omega) (hI i s (by omega) h)
theorem Ajw {σ : Type} (Inv : σ → Prop) (f : Nat → σ → σ) (hf : ∀ i s, Inv s → Inv (f i s)) : ∀ k i s, Inv s → Inv (iter f k i s)
 | 0, _, _, h => h
 | k + 1, i, s, h => Ajw Inv f hf k (i + 1) _ (hf i s h)
theorem wid (w : Int) : (bif decide (w ≥ 1) then some ((decide (w ≤ 8), ()), ()) else some ((false, ()), ())) = (some ((Fp w 1 8, ()), ()) : Option ((Bool × Unit) × Unit)) := by
 unfold Fp
 by_cases h : 1 ≤ w
 ·rw [decide_eq_true (show w ≥ 1 from h)]; rfl
 ·rw [decide_eq_false (show ¬ w ≥ 1 from h)]; rfl
theorem Ar9 (k : Int) : IntKind.wrap IntKind.u64 k = k % 18446744073709551616 := by
 simp [IntKind.wrap, IntKind.bits, IntKind.signed]
theorem Atk (k : Int) : IntKind.i64.wrap k = if k % 18446744073709551616 ≥ 9223372036854775808 then k % 18446744073709551616 - 18446744073709551616 else k % 18446744073709551616 := by
 simp [IntKind.wrap, IntKind.bits, IntKind.signed]
def U64 (h : Int) : Prop := 0 ≤ h ∧ h < 18446744073709551616
theorem Anb (s : ByteArray) (k i : Nat) {h : Int} (hh : U64 h) : U64 (Zd s k i h) :=
 Ajw U64 _ (fun i s _ => by unfold Sa; rw [Ar9]; exact ⟨Int.emod_nonneg _ (by decide), Int.emod_lt_of_pos _ (by decide)⟩) k i h hh
theorem Ack : ∀ (n : Nat) (v c : Int), Me (v + 256 ^ n * c) n = Me v n
 | 0, _, _ => rfl
 | n + 1, v, c => by
  have e : v + 256 ^ (n + 1) * c = v + 256 * (256 ^ n * c) := by rw [Int.pow_succ, Int.mul_comm (256 ^ n) 256, Int.mul_assoc]
  simp only [Me]
  rw [e]
  have e1 : (v + 256 * (256 ^ n * c)) / 256 = v / 256 + 256 ^ n * c := by omega
  have e2 : (v + 256 * (256 ^ n * c)) % 256 = v % 256 := by omega
  rw [e1, e2, Ack n]
theorem Agd (n : Nat) : ∀ (w : Nat) (v : Int), (Me v (n + w)).drop n = Me v w
 | 0, v => by rw [List.drop_eq_nil_of_le (by rw [Se]; omega)]; rfl
 | w + 1, v => by
  show (Me (v / 256) (n + w) ++ [v % 256]).drop n = _
  rw [List.drop_append_of_le_length (by rw [Se]; omega), Agd n w]
  rfl
theorem Aqa (l : List Int) (a : Nat) : Cj (strOfNums l) (a : Int) (nI (strOfNums l).size) = strOfNums (l.drop a) := by
 unfold Cj
 rw [C3]
 apply ByteArray.ext
 simp [strOfNums, nI, List.map_drop]
 exact List.take_of_length_le (by simp)
theorem Arm {h w : Int} (hh : U64 h) (h1 : 1 ≤ w) (h8 : w ≤ 8) : Cj (Cl (IntKind.wrap IntKind.i64 h) (Int.toNat 8)) (8 - w) (nI (ByteArray.size (Cl (IntKind.wrap IntKind.i64 h) (Int.toNat 8)))) = Cl h w.toNat := by
 obtain ⟨n, rfl⟩ : ∃ n : Nat, w = (n : Int) := ⟨w.toNat, by omega⟩
 have e8 : Int.toNat 8 = (8 - n) + n := by omega
 have e : (8 - (n : Int)) = ((8 - n : Nat) : Int) := by omega
 rw [e]
 unfold Cl
 have hd : Me (IntKind.wrap IntKind.i64 h) (Int.toNat 8) = Me h (Int.toNat 8) := by
  by_cases q : h < 9223372036854775808
  ·rw [Ae (by have := hh.1; omega) q]
  ·have : IntKind.wrap IntKind.i64 h = h + 256 ^ 8 * (-1) := by
    have h6 : (256 : Int) ^ 8 = 18446744073709551616 := by decide
    have := hh.2
    rw [h6]
    rw [Atk]
    split <;> omega
   rw [this]
   exact Ack 8 h (-1)
 rw [hd, Aqa, e8, Agd]
 rfl
theorem O5 {s : ByteArray} {w : Int} (h : Fp w 1 8 = true) : (Wz s w).size = w.toNat := by
 unfold Wz; rw [h]; exact G5 _ _
theorem At4 : ∀ n : Nat, n ≤ 64 → U9 (ByteArray.mk #[0]) (n : Int) = some (strOfNums (List.replicate n 0)) := by decide +kernel
theorem W3 {p : Pg} {w : Int} (h : I5 p w = true) : Fp w 1 8 = true ∧ 1 ≤ w ∧ w ≤ 8 ∧ (p.2.2.2.1.size : Int) ≤ 56 - w := by
 obtain ⟨h1, h2⟩ := Cq h
 obtain ⟨_, h2⟩ := Cq h2
 obtain ⟨_, h2⟩ := Cq h2
 obtain ⟨_, h2⟩ := Cq h2
 exact ⟨h1, of_decide_eq_true (Cq h1).1, of_decide_eq_true (Cq h1).2, of_decide_eq_true (Cq h2).1⟩
theorem Ep {v lo hi : Int} (h : Fp v lo hi = true) : lo ≤ v ∧ v ≤ hi := ⟨of_decide_eq_true (Cq h).1, of_decide_eq_true (Cq h).2⟩
theorem Aqb {p : Pg} {w : Int} (h : I5 p w = true) : (1 ≤ p.1 ∧ p.1 ≤ 4) ∧ (1 ≤ p.2.1 ∧ p.2.1 ≤ 60000) ∧ (1 ≤ p.2.2.1 ∧ p.2.2.1 ≤ 1000000000) := by
 obtain ⟨_, h2⟩ := Cq h
 obtain ⟨h3, h2⟩ := Cq h2
 obtain ⟨h4, h2⟩ := Cq h2
 obtain ⟨h5, h2⟩ := Cq h2
 exact ⟨Ep h3, Ep h4, Ep h5⟩
theorem Alt (x lo hi : Int) {ρ : Type} (f t : ρ) : (bif decide (x < lo) then f else bif decide (x > hi) then f else t) = bif Fp x lo hi then t else f := by
 unfold Fp
 by_cases h1 : x < lo
 ·rw [decide_eq_true h1, decide_eq_false (show ¬ lo ≤ x by omega)]; rfl
 ·rw [decide_eq_false h1, decide_eq_true (show lo ≤ x by omega)]
  by_cases h2 : x > hi
  ·rw [decide_eq_true h2, decide_eq_false (show ¬ x ≤ hi by omega)]; rfl
  ·rw [decide_eq_false h2, decide_eq_true (show x ≤ hi by omega)]; rfl
theorem Acl {α β : Type} (f : α → List β) (z : α) (xs : List α) : ∀ k i r, i + k = xs.length → iter (fun i r => r ++ f (xs.getD i z)) k i r = r ++ ((xs.drop i).map f).flatten
 | 0, i, r, h => by
  rw [List.drop_eq_nil_of_le (by omega)]
  simp [iter]
 | k + 1, i, r, h => by
  rw [Iv xs i z (by omega)]
  simp only [iter, List.map_cons, List.flatten_cons]
  rw [Acl f z xs k (i + 1) _ (by omega), List.append_assoc]
theorem Kb (a b : ByteArray) : Ag (a ++ b) = Ag a ++ Ag b := by
 unfold Ag
 simp
theorem Iw (s : ByteArray) : (Ag s).length = s.size := by
 unfold Ag
 rw [List.length_map]
 rfl
theorem Vc (l : List Int) (h : Dg l = true) : Ag (strOfNums l) = l := by
 unfold Ag strOfNums
 show (List.map _ (List.map _ l)) = l
 rw [List.map_map]
 conv => rhs; rw [← List.map_id l]
 refine List.map_congr_left fun x hx => ?_
 have := List.all_eq_true.1 h x hx
 obtain ⟨h1, h2⟩ := Cq this
 have h1 := of_decide_eq_true h1
 have h2 := of_decide_eq_true h2
 show (((UInt8.ofNat x.toNat).toNat : Nat) : Int) = x
 rw [UInt8.toNat_ofNat']
 rw [Nat.mod_eq_of_lt (by omega)]
 omega
theorem Age (s : ByteArray) : Dg (Ag s) = true := by
 refine List.all_eq_true.2 fun x hx => ?_
 obtain ⟨b, _, rfl⟩ := List.mem_map.1 hx
 have := b.toNat_lt
 show (decide (0 ≤ (b.toNat : Int)) && decide ((b.toNat : Int) < 256)) = true
 rw [decide_eq_true (by omega), decide_eq_true (by omega)]
 rfl
theorem Hl (a b : List Int) : Dg (a ++ b) = (Dg a && Dg b) := List.all_append
theorem Arn (n : Nat) (h : n < 256) : Cl (nI n) 1 = strOfNums [nI n] := by
 unfold Cl
 simp only [Me, List.nil_append]
 rw [show nI n % 256 = nI n by simp only [nI]; omega]
theorem Ahw (n : Nat) (h : n < 256) : Dg [nI n] = true := by
 show ((decide (0 ≤ nI n) && decide (nI n < 256)) && true) = true
 rw [decide_eq_true (by simp only [nI]; omega), decide_eq_true (by simp only [nI]; omega)]
 rfl
theorem Ajx (n : Nat) (h : n < 256) : Ag (Cl (nI n) 1) = [nI n] := by
 rw [Arn n h, Vc _ (Ahw n h)]
theorem Asa (n : Nat) (h : n < 256) : IntKind.wrap IntKind.u8 (nI n) = nI n := by
 show nI n % 256 = nI n
 simp only [nI]; omega
theorem Zh {c : Chg} (h : Lo c = true) : 1 ≤ c.1.size ∧ c.1.size ≤ 20 ∧ c.2.1.size ≤ 100 := by
 obtain ⟨h1, h2⟩ := Cq h
 obtain ⟨h2, _⟩ := Cq h2
 have := Ep h1
 have := of_decide_eq_true h2
 omega
theorem j7 {c : Chg} (h : Lo c = true) : Dg (W0 c) = true ∧ (W0 c).length ≤ 200 := by
 obtain ⟨k1, k2, k3⟩ := Zh h
 unfold W0
 have a1 := Ahw c.1.size (by omega)
 have a2 := Ahw c.2.1.size (by omega)
 have b1 : Dg [1, nI c.1.size] = true := by
  rw [show [1, nI c.1.size] = [1] ++ [nI c.1.size] from rfl, Hl, a1]; rfl
 have b0 : Dg [0, nI c.1.size] = true := by
  rw [show [0, nI c.1.size] = [0] ++ [nI c.1.size] from rfl, Hl, a1]; rfl
 cases c.2.2.1
 ·simp only [cond_false, Hl, b0, a2, Age, List.length_append, Iw, List.length_cons, List.length_nil]
  exact ⟨rfl, by omega⟩
 ·simp only [cond_true, Hl, b1, Age, List.length_append, Iw, List.length_cons, List.length_nil]
  exact ⟨rfl, by omega⟩
theorem Ks {b : List Chg} (h : A4 b = true) : b.length ≤ 20 ∧ ∀ i, i < b.length → Lo (b.getD i zC) = true := by
 obtain ⟨h1, h2⟩ := Cq h
 refine ⟨by have := (Ep h1).2; omega, fun i hi => ?_⟩
 exact List.all_eq_true.1 h2 i (List.mem_range'_1.2 ⟨by omega, by omega⟩)
def Acm (i : Nat) (r : List Int) : Prop := r.length ≤ 200 * i ∧ Dg r = true
theorem Acm.step {i : Nat} {r : List Int} {c : Chg} (h : Acm i r) (hc : Lo c = true) : Acm (i + 1) (r ++ W0 c) := by
 obtain ⟨q1, q2⟩ := j7 hc
 exact ⟨by rw [List.length_append]; have := h.1; omega, by rw [Hl, h.2, q1]; rfl⟩
theorem Ajy {b : List Chg} (h : ∀ i, i < b.length → Lo (b.getD i zC) = true) : ∀ k i r, i + k = b.length → Acm i r → Acm b.length (iter (fun i r => r ++ W0 (b.getD i zC)) k i r)
 | 0, i, r, e, hr => by
  obtain rfl : i = b.length := by omega
  exact hr
 | k + 1, i, r, e, hr => Ajy h k (i + 1) _ (by omega) (hr.step (h i (by omega)))
theorem Asz {a b : ByteArray} (h : Ag a = Ag b) : a = b := by
 apply ByteArray.ext
 apply Array.ext'
 unfold Ag at h
 exact (List.map_inj_right (fun x y e => UInt8.toNat_inj.1 (by omega))).1 h
theorem Aoa (s : ByteArray) (a b : Nat) : Ag (Cj s a b) = ((Ag s).drop a).take (b - a) := by
 unfold Ag Cj
 simp [List.map_drop, List.map_take]
theorem Aob {b : List Chg} (h : A4 b = true) : 1 ≤ b.length ∧ b.length ≤ 20 ∧ ∀ c ∈ b, Lo c = true := by
 obtain ⟨h1, h2⟩ := Ks h
 refine ⟨by have := (Ep (Cq h).1).1; omega, h1, Ajt (z := zC) (P := fun c => Lo c = true) h2⟩
theorem Ajz : ∀ (n : Nat) (v : Int), Dg (Me v n) = true
 | 0, _ => rfl
 | n + 1, v => by
  simp only [Me, Hl, Ajz n]
  show (true && ((decide (0 ≤ v % 256) && decide (v % 256 < 256)) && true)) = true
  rw [decide_eq_true (by omega), decide_eq_true (by omega)]
  rfl
theorem Tp (v : Int) (n : Nat) : Ag (Cl v n) = Me v n := Vc _ (Ajz n v)
theorem Aoc (n : Nat) : Dg (List.replicate n 0) = true := List.all_eq_true.2 fun x hx => by
 rw [List.eq_of_mem_replicate hx]; rfl
theorem Alu (p : Pg) (w : Int) : Ag (Hx p w) = Me p.1 1 ++ (Me p.2.1 2 ++ (Me p.2.2.1 4 ++ (Me p.2.2.2.1.size 1 ++ (Ag p.2.2.2.1 ++ List.replicate (56 - w - p.2.2.2.1.size).toNat 0)))) := by
 unfold Hx
 rw [Kb, Kb, Kb, Kb, Kb, Tp, Tp, Tp, Tp, Vc _ (Aoc _)]
 simp only [List.append_assoc]
theorem Agf {p : Pg} {w : Int} (h : I5 p w = true) : (Hx p w).size = (64 - w).toNat := by
 obtain ⟨hw, k1, k2, kp⟩ := W3 h
 rw [← Iw, Alu]
 simp only [List.length_append, Se, Iw, List.length_replicate]
 omega
theorem Alv {p : Pg} {w : Int} (h : I5 p w = true) : (F7 p w).size = 64 ∧ Cj (F7 p w) w (nI (F7 p w).size) = Hx p w := by
 obtain ⟨hw, k1, k2, kp⟩ := W3 h
 have e : F7 p w = Wz (Hx p w) w ++ Hx p w := by unfold F7; rw [h]; rfl
 have hs : (F7 p w).size = 64 := by rw [e, ByteArray.size_append, O5 hw, Agf h]; omega
 refine ⟨hs, ?_⟩
 obtain ⟨n, rfl⟩ : ∃ n : Nat, w = (n : Int) := ⟨w.toNat, by omega⟩
 apply Asz
 have q : Cj (F7 p n) n (nI (F7 p n).size) = Cj (F7 p n) (n : Nat) ((64 : Nat) : Int) := by rw [hs] <;> rfl
 rw [q, Aoa, e, Kb, List.drop_append_of_le_length (by rw [Iw, O5 hw]; omega), List.drop_of_length_le (by rw [Iw, O5 hw]; omega), List.nil_append, List.take_of_length_le (by rw [Iw, Agf h]; omega)]
theorem Aod {a n : Int} (hn : 0 < n) : (a + n - 1) / n = 1 + (a - n + n - 1) / n := by
 have : a + n - 1 = (a - n + n - 1) + n * 1 := by omega
 rw [this, Int.add_mul_ediv_left _ _ (by omega)]
 omega
theorem Agg (n : Nat) (hn : 1 ≤ n) : ∀ (f : Nat) (s : ByteArray), s.size ≤ f → ((Df n f s).length : Int) = if ((s.size : Int) + n - 1) / n > 1 then ((s.size : Int) + n - 1) / n else 1
 | 0, s, h => by
  have h0 : s.size = 0 := by omega
  simp only [Df, h0]
  have : (((0 : Nat) : Int) + n - 1) / n = 0 := Int.ediv_eq_zero_of_lt (by omega) (by omega)
  exact (if_neg (by rw [this]; decide)).symm
 | f + 1, s, h => by
  by_cases q : s.size > n
  ·have hc : (Cj s n (nI s.size)).size = s.size - n := by rw [Vb (by omega) (by simp only [nI]; omega) (by simp [nI])]; simp only [nI]; omega
   simp only [Df, if_pos q, List.length_cons]
   have ih := Agg n hn f (Cj s n (nI s.size)) (by omega)
   rw [hc] at ih
   have e := Aod (a := s.size) (n := n) (by omega)
   have e2 : ((s.size - n : Nat) : Int) = (s.size : Int) - n := by omega
   rw [e2] at ih
   have hp : 1 ≤ ((s.size : Int) - n + n - 1) / n := by
    rw [Int.le_ediv_iff_mul_le (by omega)]
    omega
   rw [e]
   generalize ((s.size : Int) - n + n - 1) / n = y at *
   rw [if_pos (by omega)]
   split at ih <;> omega
  ·simp only [Df, if_neg q]
   have : ((s.size : Int) + n - 1) / n < 2 := by
    rw [Int.ediv_lt_iff_lt_mul (by omega)]
    omega
   exact (if_neg (by omega)).symm
theorem Vd {s : ByteArray} {w : Int} (hw : Fp w 1 8 = true) : ((Bu s w).length : Int) = if ((s.size : Int) + (56 - w) - 1) / (56 - w) > 1 then ((s.size : Int) + (56 - w) - 1) / (56 - w) else 1 := by
 obtain ⟨h1, h2⟩ := Ep hw
 obtain ⟨n, hn⟩ : ∃ n : Nat, 56 - w = (n : Int) := ⟨(56 - w).toNat, by omega⟩
 unfold Bu
 rw [hn, Int.toNat_natCast]
 exact Agg n (by omega) s.size s (Nat.le_refl _)
theorem Nj (life w : Int) : ∀ (L : List ByteArray) (k : Int), j6 life w k L = (List.range' 0 L.length).map (fun i => F7 ((if i + 1 = L.length then 2 else 1), life, k + (i : Int), L.getD i z0, ()) w)
 | [], k => rfl
 | [p], k => by
  show [F7 (2, life, k, p, ()) w] = [F7 ((if 0 + 1 = 1 then 2 else 1), life, k + ((0 : Nat) : Int), p, ()) w]
  rw [if_pos rfl, show k + ((0 : Nat) : Int) = k by omega]
 | p :: q :: r, k => by
  have ih := Nj life w (q :: r) (k + 1)
  show F7 (1, life, k, p, ()) w :: j6 life w (k + 1) (q :: r) = (List.range' 0 ((q :: r).length + 1)).map (fun i => F7 ((if i + 1 = (q :: r).length + 1 then 2 else 1), life, k + (i : Int), (p :: q :: r).getD i z0, ()) w)
  rw [ih, List.range'_succ, List.map_cons]
  congr 1
  ·rw [if_neg (by rw [List.length_cons]; omega), show k + ((0 : Nat) : Int) = k by omega]
   rfl
  ·rw [show List.range' (0 + 1) (q :: r).length = List.map (fun x => 1 + x) (List.range' 0 (q :: r).length) by rw [List.map_add_range'], List.map_map]
   refine List.map_congr_left fun i _ => ?_
   show _ = F7 ((if 1 + i + 1 = (q :: r).length + 1 then 2 else 1), life, k + ((1 + i : Nat) : Int), (p :: q :: r).getD (1 + i) z0, ()) w
   rw [show k + ((1 + i : Nat) : Int) = k + 1 + (i : Int) by omega, show 1 + i = i + 1 by omega]
   by_cases e : i + 1 = (q :: r).length
   ·rw [if_pos e, if_pos (by omega)]; rfl
   ·rw [if_neg e, if_neg (by omega)]; rfl
theorem Agh {β : Type} (g : Nat → β) : ∀ k i (r : List β), iter (fun i r => r ++ [g i]) k i r = r ++ (List.range' i k).map g
 | 0, i, r => by simp [iter]
 | k + 1, i, r => by
  simp only [iter]
  rw [Agh g k (i + 1), List.range'_succ, List.map_cons, List.append_assoc]
  rfl
theorem Alw (p : Pg) (w : Int) : (F7 p w).size ≤ 64 := by
 cases h : I5 p w with
 | true => rw [(Alv h).1]; exact Nat.le_refl _
 | false => unfold F7; rw [h]; show (ByteArray.mk #[]).size ≤ 64; decide
theorem Alx (life w : Int) : ∀ (L : List ByteArray) (k : Int), (j6 life w k L).length = L.length ∧ ∀ x ∈ j6 life w k L, x.size ≤ 64 := by
 intro L k
 rw [Nj]
 refine ⟨by simp, fun x hx => ?_⟩
 obtain ⟨i, _, rfl⟩ := List.mem_map.1 hx
 exact Alw _ _
theorem Oh.sync {d : Dk} (h : Oh d) : Oh (Ar7 d) := by
 have hl := Ahv d.1 d.2.1
 have hs : Ajs d.1.length (Ajp d.1 d.2.1) := Zf (Ajs d.1.length) _ d.2.1 0 d.1 (fun i s w hw hI => hI.set (Ajt (z := zW) (P := fun w : Wr => w.2.1.size = 64) (fun i hi => (h.pen i hi).2.2) w hw)) ⟨rfl, h.sec⟩
 exact ⟨by show 8 ≤ (Ajp d.1 d.2.1).length; rw [hl]; exact h.n8, by show (Ajp d.1 d.2.1).length ≤ 200; rw [hl]; exact h.n200, by show (0 : Nat) ≤ 300; omega, fun i hi => hs.2 i (by rw [← hl]; exact hi), fun i hi => absurd hi (by show ¬ i < 0; omega)⟩
theorem Oh.op {d : Dk} (h : Oh d) (o : Opn) : Oh (opS d o) := by
 unfold opS
 cases o.1 with
 | true => exact h.sync
 | false =>
  cases hc : Atg d.1.length (o.2.1, o.2.2.1, ()) && decide (d.2.1.length < 300) with
  | false => exact h
  | true =>
   obtain ⟨h1, h2⟩ := Cq hc
   obtain ⟨q1, q2⟩ := Cq h1
   obtain ⟨q2, q3⟩ := Cq q2
   have h2 := of_decide_eq_true h2
   refine ⟨h.n8, h.n200, by show (d.2.1 ++ [(o.2.1, o.2.2.1, ())]).length ≤ 300; rw [List.length_append, List.length_singleton]; omega, h.sec, fun i hi => ?_⟩
   have hi : i < d.2.1.length + 1 := by
    have hi : i < (d.2.1 ++ [(o.2.1, o.2.2.1, ())]).length := hi
    rw [List.length_append, List.length_singleton] at hi
    exact hi
   show 0 ≤ ((d.2.1 ++ [(o.2.1, o.2.2.1, ())]).getD i zW).1 ∧ ((d.2.1 ++ [(o.2.1, o.2.2.1, ())]).getD i zW).1 < (d.1.length : Int) ∧ ((d.2.1 ++ [(o.2.1, o.2.2.1, ())]).getD i zW).2.1.size = 64
   by_cases e : i < d.2.1.length
   ·have : (d.2.1 ++ [(o.2.1, o.2.2.1, ())]).getD i zW = d.2.1.getD i zW := by
     rw [List.getD_eq_getElem?_getD, List.getElem?_append_left e, ← List.getD_eq_getElem?_getD]
    rw [this]
    exact h.pen i e
   ·obtain rfl : i = d.2.1.length := by omega
    have : (d.2.1 ++ [(o.2.1, o.2.2.1, ())]).getD d.2.1.length zW = (o.2.1, o.2.2.1, ()) := by
     rw [List.getD_eq_getElem?_getD, List.getElem?_append_right (Nat.le_refl _), Nat.sub_self]
     rfl
    rw [this]
    exact ⟨of_decide_eq_true q1, of_decide_eq_true q2, of_decide_eq_true q3⟩
theorem Oh.ops : ∀ (l : List Opn) {d : Dk}, Oh d → Oh (l.foldl opS d)
 | [], _, h => h
 | o :: r, _, h => Oh.ops r (h.op o)
theorem Sf (n : Nat) : ∀ (f : Nat) (s : ByteArray), (Df n f s).length ≤ f + 1
 | 0, s => by simp [Df]
 | f + 1, s => by
  unfold Df
  split
  ·rw [List.length_cons]
   have := Sf n f (Cj s n (nI s.size))
   omega
  ·simp
end Go.Proofs.YteaoabdlcefkhaaGreat.V

