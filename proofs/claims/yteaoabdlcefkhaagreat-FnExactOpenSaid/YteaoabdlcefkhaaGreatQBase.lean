/- Plain facts. No condition. -/
import Derived.Test.YteaoabdlcefkhaaGreatMBase
namespace Go.Proofs.YteaoabdlcefkhaaGreat.V
open Go Go.Proofs.YteaoabdlcefkhaaGreat.R
set_option linter.unusedVariables false
set_option linter.unusedSimpArgs false
theorem Ad {n : Int} (h0 : -9223372036854775808 ≤ n) (h1 : n < 9223372036854775808) : IntKind.i64.wrap n = n := by
 have e : IntKind.i64.wrap n = if n % 18446744073709551616 ≥ 9223372036854775808 then n % 18446744073709551616 - 18446744073709551616 else n % 18446744073709551616 := by
  simp [IntKind.wrap, IntKind.bits, IntKind.signed]
 rw [e]
 split <;> omega
theorem Ih {α : Type} (xs : List α) (i : Nat) (z : α) (h : i < xs.length) : xs.drop i = xs.getD i z :: xs.drop (i + 1) := by
 rw [List.drop_eq_getElem_cons h]
 simp [List.getD, List.getElem?_eq_getElem h]
theorem Ot {α : Type} {xs : List α} {i : Nat} (z : α) (h : i < xs.length) : xs.getD i z ∈ xs := by
 simp [List.getD, List.getElem?_eq_getElem h]
theorem Ou {i n : Nat} (h : i < n) : decide ((i : Int) < nI n) = true := by simp [nI]; omega
theorem I0 {n : Nat} : decide ((n : Int) < nI n) = false := by simp [nI]
theorem F2 {i : Nat} : decide ((0 : Int) ≤ (i : Int)) = true := by simp
theorem Axr {i n : Nat} (h : i < n) : decide (i < n) = true := by simp [h]
theorem wI {i : Nat} (h : i < 4611686018427387904) : IntKind.i64.wrap ((i : Int) + 1) = ((i + 1 : Nat) : Int) := by rw [Ad (by omega) (by omega)]; rfl
theorem Apy {α E : Type} {xs : List α} (z : α) (w : α → Nat) {g : Nat → Int → Int → Option E} {ok : Int → E} {bad : E}
  (hs : ∀ m (i : Nat) l, i < xs.length → 0 ≤ l → l ≤ 1048576 → g (m + 1) l i = bif decide (l - (w (xs.getD i z) : Int) < 0) then some bad else g m (l - w (xs.getD i z)) ((i + 1 : Nat) : Int))
  (he : ∀ m l, g (m + 1) l (xs.length : Int) = some (ok l)) :
  ∀ (m i : Nat) (l : Int), i ≤ xs.length → xs.length - i < m → 0 ≤ l → l ≤ 1048576 → g m l i = some (if l - (((xs.drop i).map w).sum : Int) < 0 then bad else ok (l - ((xs.drop i).map w).sum))
 | 0, i, l, hi, hm, _, _ => by omega
 | m + 1, i, l, hi, hm, h0, h1 => by
  by_cases h : i < xs.length
  ·rw [hs m i l h h0 h1, Ih xs i z h, List.map_cons, List.sum_cons, Int.natCast_add (w (xs.getD i z))]
   by_cases q : l - (w (xs.getD i z) : Int) < 0
   ·have q2 : l - ((w (xs.getD i z) : Int) + (((xs.drop (i + 1)).map w).sum : Int)) < 0 := by omega
    rw [decide_eq_true q, cond_true, if_pos q2]
   ·rw [decide_eq_false q, cond_false, Apy z w hs he m (i + 1) _ (by omega) (by omega) (by omega) (by omega)]
    simp only [Int.sub_sub]
  ·have : i = xs.length := by omega
   subst this
   rw [he]
   simp only [List.drop_length, List.map_nil, List.sum_nil]
   have : ¬ (l - ((0 : Nat) : Int) < 0) := by simp; omega
   rw [if_neg this]
   simp
theorem Apz {α E : Type} {xs : List α} (z : α) {g : Nat → Int → List α → Option E} {ok : List α → E}
  (hs : ∀ m (i : Nat) (r : List α), i < xs.length → r.length = xs.length → g (m + 1) i r = g m ((i + 1 : Nat) : Int) (r.set i (xs.getD i z)))
  (he : ∀ m r, g (m + 1) (xs.length : Int) r = some (ok r)) :
  ∀ (m i : Nat) (r : List α), i ≤ xs.length → xs.length - i < m → r.length = xs.length → g m i r = some (ok (r.take i ++ xs.drop i))
 | 0, i, l, hi, hm, _ => by omega
 | m + 1, i, r, hi, hm, hr => by
  by_cases h : i < xs.length
  ·rw [hs m i r h hr, Apz z hs he m (i + 1) _ (by omega) (by omega) (by simp [hr]), Ih xs i z h]
   have : (r.set i (xs.getD i z)).take (i + 1) = r.take i ++ [xs.getD i z] := by
    rw [List.take_add_one, List.take_set_of_le (Nat.le_refl i), List.getElem?_set_self (by omega)]
    rfl
   rw [this, List.append_assoc]
   rfl
  ·have : i = xs.length := by omega
   subst this
   rw [he, List.drop_length, List.append_nil, ← hr, List.take_length]
theorem Aaq {α : Type} {f : α → α → Bool} : ∀ {xs ys : List α}, xs.length ≠ ys.length → eqL f xs ys = false
 | [], [], h => absurd rfl h
 | [], _ :: _, _ => rfl
 | _ :: _, [], _ => rfl
 | x :: xs, y :: ys, h => by
  simp only [eqL]
  rw [Aaq (by simpa using h), Bool.and_false]
theorem Aar {α E : Type} {xs ys : List α} (z : α) (f : α → α → Bool) {g : Nat → Int → Option E} {ok bad : E} (hl : ys.length = xs.length)
  (hs : ∀ m (i : Nat), i < xs.length → g (m + 1) i = bif f (xs.getD i z) (ys.getD i z) then g m ((i + 1 : Nat) : Int) else some bad)
  (he : ∀ m, g (m + 1) (xs.length : Int) = some ok) :
  ∀ (m i : Nat), i ≤ xs.length → xs.length - i < m → g m i = some (bif eqL f (xs.drop i) (ys.drop i) then ok else bad)
 | 0, i, hi, hm => by omega
 | m + 1, i, hi, hm => by
  by_cases h : i < xs.length
  ·rw [hs m i h, Ih xs i z h, Ih ys i z (by omega)]
   simp only [eqL]
   cases f (xs.getD i z) (ys.getD i z) with
   | false => rfl
   | true =>
    rw [cond_true, Aar z f hl hs he m (i + 1) (by omega) (by omega), Bool.true_and]
  ·have : i = xs.length := by omega
   subst this
   have hy : ys.drop xs.length = [] := List.drop_eq_nil_of_le (by omega)
   rw [he, List.drop_length, hy]
   rfl
theorem Ma {E : Type} {n : Nat} {g : Nat → Int → Option E} {ok bad : E} (p : Nat → Bool)
  (hs : ∀ m (i : Nat), i < n → g (m + 1) i = bif p i then g m ((i + 1 : Nat) : Int) else some bad)
  (he : ∀ m, g (m + 1) (n : Int) = some ok) :
  ∀ (m i : Nat), i ≤ n → n - i < m → g m i = some (bif (List.range' i (n - i)).all p then ok else bad)
 | 0, i, hi, hm => by omega
 | m + 1, i, hi, hm => by
  by_cases h : i < n
  ·have e : n - i = (n - (i + 1)) + 1 := by omega
   rw [hs m i h, e, List.range'_succ, List.all_cons]
   cases p i with
   | false => rfl
   | true =>
    rw [cond_true, Ma p hs he m (i + 1) (by omega) (by omega), Bool.true_and]
  ·have : i = n := by omega
   subst this
   rw [he, Nat.sub_self]
   rfl
theorem A2l {a b c : Bool} (h : (a && b && c) = true) : a = true ∧ b = true ∧ c = true := by
 cases a <;> cases b <;> cases c <;> first | exact ⟨rfl, rfl, rfl⟩ | cases h
theorem Cj {a b : Bool} (h : (a && b) = true) : a = true ∧ b = true := by
 cases a <;> cases b <;> first | exact ⟨rfl, rfl⟩ | cases h
theorem Ks {t : Ty} {xs : List t.D} (h : A4 (.sl t) xs = true) : List.length xs < 1152921504606846976 ∧ ∀ x ∈ xs, A4 t x = true := by
 obtain ⟨h1, h2⟩ := Cj h
 exact ⟨of_decide_eq_true h1, List.all_eq_true.1 h2⟩
theorem Aob {t : Ty} {xs : List t.D} (h : Ie (.sl t) xs = true) : List.length xs ≤ 1048576 ∧ ∀ x ∈ xs, Ie t x = true := by
 obtain ⟨h1, h2⟩ := Cj h
 exact ⟨of_decide_eq_true h1, List.all_eq_true.1 h2⟩
theorem Aj {a b : Ty} {x : a.D × b.D} (h : A4 (.pair a b) x = true) : A4 a x.1 = true ∧ A4 b x.2 = true := Cj h
theorem Afw {a b : Ty} {x : a.D × b.D} (h : Ie (.pair a b) x = true) : Ie a x.1 = true ∧ Ie b x.2 = true := Cj h
theorem Aoc {x : ByteArray} (h : A4 .str x = true) : ByteArray.size x < 1152921504606846976 := of_decide_eq_true h
theorem Aas {t : Ty} {x : t.D} {l r : Int} (h : szM t x l = some r) : A4 t x = true ∧ 0 ≤ l ∧ l ≤ 1048576 ∧ (if l - (wt t x : Int) < 0 then -1 else l - (wt t x : Int)) = r := by
 unfold szM at h
 split at h
 ·rename_i hc
  obtain ⟨h1, h2, h3⟩ := A2l hc
  exact ⟨h1, of_decide_eq_true h2, of_decide_eq_true h3, Option.some.inj h⟩
 ·cases h
theorem Ap0 {t : Ty} {x : t.D} {l : Int} (h1 : A4 t x = true) (h2 : 0 ≤ l) (h3 : l ≤ 1048576) : szM t x l = some (if l - (wt t x : Int) < 0 then -1 else l - (wt t x : Int)) := by
 unfold szM
 rw [if_pos (by rw [h1, decide_eq_true h2, decide_eq_true h3]; rfl)]
theorem Aat {t : Ty} {x r : t.D} (h : toM t x = some r) : Ie t x = true ∧ x = r := by
 unfold toM at h
 split at h
 ·exact ⟨by assumption, Option.some.inj h⟩
 ·cases h
theorem Au1 {t : Ty} {x : t.D} (h : Ie t x = true) : toM t x = some x := if_pos h
theorem Jb {t : Ty} {x y : t.D} {r : Bool} (h : eqM t x y = some r) : A4 t x = true ∧ A4 t y = true ∧ Lv t x y = r := by
 unfold eqM at h
 split at h
 ·rename_i hc
  obtain ⟨h1, h2⟩ := Cj hc
  exact ⟨h1, h2, Option.some.inj h⟩
 ·cases h
theorem Ta {t : Ty} {x y : t.D} (h1 : A4 t x = true) (h2 : A4 t y = true) : eqM t x y = some (Lv t x y) := by
 unfold eqM
 rw [if_pos (by rw [h1, h2]; rfl)]
theorem Aau (a b : Int) : (a != b) = !R6 a b := by
 unfold R6
 by_cases h : a = b <;> simp [h, bne]
theorem Hm {α : Type} {r : List α} {i : Nat} {x z : α} (h : i < r.length) : (r.set i x).getD i z = x := by
 simp [List.getD, h]
theorem A1u {k : Int} (h : 0 ≤ k) : (Int.tmod k 3 == 0) = decide (k % 3 = 0) := by
 rw [Int.tmod_eq_emod_of_nonneg h]
 rfl
theorem T3 {α E : Type} (e : Int → α) (c : Nat) {n : Nat} {K : Int} {g : Nat → Int → Int → List α → Option E} {ok : Int → List α → E}
  (hs : ∀ m (i : Nat) (k : Int) (r : List α), i < n → r.length = n → 1 ≤ k → k + (n - i : Nat) * c ≤ K → g (m + 1) k i r = g m (k + c) ((i + 1 : Nat) : Int) (r.set i (e k)))
  (he : ∀ m k r, r.length = n → g (m + 1) k (n : Int) r = some (ok k r)) :
  ∀ (m i : Nat) (k : Int) (r : List α), i ≤ n → n - i < m → r.length = n → 1 ≤ k → k + (n - i : Nat) * c ≤ K → g m k i r = some (ok (k + (n - i : Nat) * c) (r.take i ++ gL e c (n - i) k))
 | 0, i, k, r, hi, hm, _, _, _ => by omega
 | m + 1, i, k, r, hi, hm, hr, h1, hK => by
  by_cases h : i < n
  ·have q : n - i = (n - (i + 1)) + 1 := by omega
   have hK2 : k + (c : Int) + (n - (i + 1) : Nat) * c = k + (n - i : Nat) * c := by
    rw [q, Int.natCast_add, Int.add_mul]
    simp only [Int.natCast_one, Int.one_mul]
    omega
   rw [hs m i k r h hr h1 hK, T3 e c hs he m (i + 1) _ _ (by omega) (by omega) (by simp [hr]) (by omega) (by rw [hK2]; exact hK), hK2]
   have h2 : (r.set i (e k)).take (i + 1) = r.take i ++ [e k] := by
    rw [List.take_add_one, List.take_set_of_le (Nat.le_refl i), List.getElem?_set_self (by omega)]
    rfl
   rw [h2, List.append_assoc]
   have h3 : gL e c (n - i) k = e k :: gL e c (n - (i + 1)) (k + c) := by rw [q]; rfl
   rw [h3]
   rfl
  ·have : i = n := by omega
   subst this
   rw [he _ _ _ hr, Nat.sub_self]
   simp [gL, ← hr]
theorem Ado {α E : Type} {xs : List α} (z : α) (f : α → α → Bool) (e : Int → α) (c : Nat) {K : Int} {g : Nat → Int → Int → Option E} {ok : Int → E} {bad : E}
  (hs : ∀ m (i : Nat) (k : Int), i < xs.length → 1 ≤ k → k + (xs.length - i : Nat) * c ≤ K → g (m + 1) k i = bif f (xs.getD i z) (e k) then g m (k + c) ((i + 1 : Nat) : Int) else some bad)
  (he : ∀ m k, g (m + 1) k (xs.length : Int) = some (ok k)) :
  ∀ (m i : Nat) (k : Int), i ≤ xs.length → xs.length - i < m → 1 ≤ k → k + (xs.length - i : Nat) * c ≤ K → g m k i = some (bif eqL f (xs.drop i) (gL e c (xs.length - i) k) then ok (k + (xs.length - i : Nat) * c) else bad)
 | 0, i, k, hi, hm, _, _ => by omega
 | m + 1, i, k, hi, hm, h1, hK => by
  by_cases h : i < xs.length
  ·have q : xs.length - i = (xs.length - (i + 1)) + 1 := by omega
   have hK2 : k + (c : Int) + (xs.length - (i + 1) : Nat) * c = k + (xs.length - i : Nat) * c := by
    rw [q, Int.natCast_add, Int.add_mul]
    simp only [Int.natCast_one, Int.one_mul]
    omega
   have h3 : gL e c (xs.length - i) k = e k :: gL e c (xs.length - (i + 1)) (k + c) := by rw [q]; rfl
   rw [hs m i k h h1 hK, Ih xs i z h, h3]
   simp only [eqL]
   cases f (xs.getD i z) (e k) with
   | false => rfl
   | true => rw [cond_true, Ado z f e c hs he m (i + 1) _ (by omega) (by omega) (by omega) (by rw [hK2]; exact hK), hK2, Bool.true_and]
  ·have : i = xs.length := by omega
   subst this
   rw [he, Nat.sub_self, List.drop_length]
   simp [gL, eqL]
theorem Azi {α : Type} (e : Int → α) (c : Nat) : ∀ n k, (gL e c n k).length = n
 | 0, _ => rfl
 | n + 1, k => by simp [gL, Azi e c n]
theorem Vy {t : Ty} {xs : List t.D} {k : Int} {r : Int × List t.D} (h : If t xs k = some r) : 1 ≤ k ∧ k ≤ 1125899906842624 ∧ List.length xs ≤ 1125899906842624 ∧ (k + List.length xs * mkN t, mkL t (List.length xs) k) = r := by
 unfold If at h
 split at h
 ·rename_i hc
  obtain ⟨h1, h2, h3⟩ := A2l hc
  exact ⟨of_decide_eq_true h1, of_decide_eq_true h2, of_decide_eq_true h3, Option.some.inj h⟩
 ·cases h
theorem Azj {t : Ty} {xs : List t.D} {k : Int} (h1 : 1 ≤ k) (h2 : k ≤ 1125899906842624) (h3 : List.length xs ≤ 1125899906842624) : If t xs k = some (k + List.length xs * mkN t, mkL t (List.length xs) k) := by
 unfold If
 rw [if_pos (by rw [decide_eq_true h1, decide_eq_true h2, decide_eq_true h3]; rfl)]
theorem Ajz {t : Ty} {xs : List t.D} {k : Int} {r : Int} (h : L7 t xs k = some r) : 1 ≤ k ∧ k ≤ 1125899906842624 ∧ List.length xs ≤ 1125899906842624 ∧ (if Lv (.sl t) xs (mkL t (List.length xs) k) = true then k + List.length xs * mkN t else -1) = r := by
 unfold L7 at h
 split at h
 ·rename_i hc
  obtain ⟨h1, h2, h3⟩ := A2l hc
  exact ⟨of_decide_eq_true h1, of_decide_eq_true h2, of_decide_eq_true h3, Option.some.inj h⟩
 ·cases h
theorem Azk {t : Ty} {xs : List t.D} {k : Int} (h1 : 1 ≤ k) (h2 : k ≤ 1125899906842624) (h3 : List.length xs ≤ 1125899906842624) : L7 t xs k = some (if Lv (.sl t) xs (mkL t (List.length xs) k) = true then k + List.length xs * mkN t else -1) := by
 unfold L7
 rw [if_pos (by rw [decide_eq_true h1, decide_eq_true h2, decide_eq_true h3]; rfl)]
theorem Aav (n : Nat) (c : Nat) : decide (nI n > (c : Int)) = !decide (n ≤ c) := by
 by_cases q : n ≤ c
 ·have : ¬ (nI n > (c : Int)) := by simp [nI]; omega
  rw [decide_eq_true q, decide_eq_false this]; rfl
 ·have : nI n > (c : Int) := by simp [nI]; omega
  rw [decide_eq_false q, decide_eq_true this]; rfl
theorem A02 (n c : Nat) : (nI n != (c : Int)) = !decide (n = c) := by
 by_cases q : n = c
 ·subst q; simp [nI]
 ·have : ¬ (nI n = (c : Int)) := by simp [nI]; omega
  rw [decide_eq_false q, Aau]; unfold R6; rw [decide_eq_false this]
theorem gt0 (i : Nat) : decide ((i : Int) > 0) = !(i == 0) := by
 cases i with
 | zero => rfl
 | succ j =>
  have : ((j + 1 : Nat) : Int) > 0 := by omega
  rw [decide_eq_true this]; rfl
theorem wP (j : Nat) (h : j < 4611686018427387904) : IntKind.i64.wrap (((j + 1 : Nat) : Int) - 1) = (j : Int) := by rw [Ad (by omega) (by omega)]; omega
theorem Aaw : ∀ {t : Ty} {x : t.D}, d6 t x → A4 t x = true
 | .int _, _, _ => rfl
 | .bool, _, _ => rfl
 | .str, s, h => by
  have h : ByteArray.size s ≤ reachBytes := h
  have : reachBytes < 1152921504606846976 := by decide
  exact decide_eq_true (by omega)
 | .sl t, xs, h => by
  obtain ⟨h1, h2⟩ := h
  have : reachBytes < 1152921504606846976 := by decide
  show (decide (List.length xs < 1152921504606846976) && List.all xs (A4 t)) = true
  rw [decide_eq_true (by omega), Bool.true_and]
  refine List.all_eq_true.2 fun x hx => ?_
  obtain ⟨i, hi, rfl⟩ := List.mem_iff_getElem.1 hx
  exact Aaw (h2 i _ (List.getElem?_eq_getElem hi))
 | .unit, _, _ => rfl
 | .pair a b, x, h => by
  show (A4 a x.1 && A4 b x.2) = true
  rw [Aaw h.1, Aaw h.2]
  rfl
theorem Awf {α : Type} (f : α → Nat) : ∀ {xs : List α} {x : α}, x ∈ xs → f x ≤ (xs.map f).sum
 | [], _, h => by cases h
 | y :: r, x, h => by
  rw [List.map_cons, List.sum_cons]
  rcases List.mem_cons.1 h with rfl | h
  ·omega
  ·have := Awf f h
   omega
theorem Aax : ∀ {t : Ty} {x : t.D}, wt t x ≤ 1048576 → Ie t x = true
 | .int _, _, _ => rfl
 | .bool, _, _ => rfl
 | .str, _, _ => rfl
 | .sl t, xs, h => by
  have h : List.length xs + (List.map (wt t) xs).sum ≤ 1048576 := h
  show (decide (List.length xs ≤ 1048576) && List.all xs (Ie t)) = true
  rw [decide_eq_true (by omega), Bool.true_and]
  refine List.all_eq_true.2 fun x hx => Aax ?_
  have := Awf (wt t) hx
  omega
 | .unit, _, _ => rfl
 | .pair a b, x, h => by
  have h : wt a x.1 + wt b x.2 ≤ 1048576 := h
  show (Ie a x.1 && Ie b x.2) = true
  rw [Aax (by omega), Aax (by omega)]
  rfl
theorem Asg {α : Type} {f : α → α → Bool} (h : ∀ x, f x x = true) : ∀ xs, eqL f xs xs = true
 | [] => rfl
 | x :: r => by simp only [eqL, h, Asg h r, Bool.and_self]
theorem Azl (x : Int) : R6 x x = true := decide_eq_true rfl
theorem Azm (x : Bool) : eqO x x = true := by cases x <;> rfl
theorem Azn (x : ByteArray) : eqS x x = true := by unfold eqS; simp
theorem Xy : ∀ (t : Ty) (x : t.D), Lv t x x = true
 | .int _, x => Azl x
 | .bool, x => Azm x
 | .str, x => Azn x
 | .sl t, xs => Asg (Xy t) xs
 | .unit, _ => rfl
 | .pair a b, x => by
  show (Lv a x.1 x.1 && Lv b x.2 x.2) = true
  rw [Xy, Xy]
  rfl
theorem Ash {t : Ty} {x : t.D} (h : A4 t x = true) : eqM t x x = some true := (Ta h h).trans (congrArg some (Xy t x))
theorem Azo {t : Ty} {x : t.D} {l0 : Int} (h : A4 t x = true) (h0 : 0 ≤ l0) (h1 : l0 ≤ 1048576) {m : Option Int} (hm : m = szM t x l0) :
  m = some (-1) ∨ ∃ l : Int, m = some l ∧ 0 ≤ l ∧ l ≤ 1048576 ∧ Ie t x = true ∧ decide (l < 0) = false := by
 subst hm
 rw [Ap0 h h0 h1]
 by_cases q : l0 - (wt t x : Int) < 0
 ·rw [if_pos q]; exact .inl rfl
 ·rw [if_neg q]
  exact .inr ⟨_, rfl, by omega, by omega, Aax (by omega), decide_eq_false q⟩
theorem A28 : decide ((-1 : Int) < 0) = true := rfl
theorem m8 {α E F : Type} (f : E → F) (p : α → Bool) (out : α → E) (ok : E) : ∀ l, f (S9 p out ok l) = S9 p (fun x => f (out x)) (f ok) l
 | [] => rfl
 | x :: r => by
  simp only [S9]
  cases p x with
  | true => rfl
  | false => exact m8 f p out ok r
theorem Aj0 {α E : Type} {xs : List α} (z : α) (p : α → Bool) (out : α → E) {g : Nat → Int → Option E} {ok : E}
  (hs : ∀ m (i : Nat), i < xs.length → g (m + 1) i = bif p (xs.getD i z) then some (out (xs.getD i z)) else g m ((i : Int) - 1))
  (he : ∀ m, g (m + 1) (-1) = some ok) :
  ∀ (m i : Nat), i ≤ xs.length → i < m → g m ((i : Int) - 1) = some (S9 p out ok (xs.take i).reverse)
 | 0, i, hi, hm => by omega
 | m + 1, 0, hi, hm => by
  rw [show ((0 : Nat) : Int) - 1 = -1 from rfl, he]
  rfl
 | m + 1, i + 1, hi, hm => by
  have e : (((i + 1 : Nat) : Int) - 1) = (i : Int) := by omega
  have h : i < xs.length := by omega
  have e2 : (xs.take (i + 1)).reverse = xs.getD i z :: (xs.take i).reverse := by
   rw [List.take_add_one, List.getElem?_eq_getElem h, Option.toList_some, List.reverse_append, List.reverse_singleton]
   simp [List.getD, List.getElem?_eq_getElem h]
  rw [e, hs m i h, e2]
  simp only [S9]
  cases p (xs.getD i z) with
  | true => rfl
  | false => rw [cond_false, cond_false, Aj0 z p out hs he m i (by omega) (by omega)]
theorem Aod {α σ E : Type} {xs : List α} (z : α) (Inv : σ → Prop) (step : Nat → α → σ → σ) {g : Nat → Int → σ → Option E} {ok : σ → E}
  (hs : ∀ m (i : Nat) s, i < xs.length → Inv s → g (m + 1) i s = g m ((i + 1 : Nat) : Int) (step i (xs.getD i z) s))
  (hi : ∀ i s, i < xs.length → Inv s → Inv (step i (xs.getD i z) s))
  (he : ∀ m s, Inv s → g (m + 1) (xs.length : Int) s = some (ok s)) :
  ∀ (m i : Nat) s, i ≤ xs.length → xs.length - i < m → Inv s → g m i s = some (ok (Eu step i (xs.drop i) s))
 | 0, i, s, _, hm, _ => by omega
 | m + 1, i, s, hl, hm, hI => by
  by_cases h : i < xs.length
  ·rw [hs m i s h hI, Aod z Inv step hs hi he m (i + 1) _ (by omega) (by omega) (hi i s h hI), Ih xs i z h]
   rfl
  ·have : i = xs.length := by omega
   subst this
   rw [he _ _ hI, List.drop_length]
   rfl
theorem Adp {α σ : Type} (Inv : σ → Prop) (step : Nat → α → σ → σ) : ∀ (l : List α) (i : Nat) (s : σ), (∀ i s x, x ∈ l → Inv s → Inv (step i x s)) → Inv s → Inv (Eu step i l s)
 | [], _, _, _, h => h
 | x :: r, i, s, hs, h => Adp Inv step r (i + 1) _ (fun i s y hy => hs i s y (List.mem_cons_of_mem _ hy)) (hs i s x (by simp) h)
theorem Aoe {α σ : Type} (step : Nat → α → σ → σ) : ∀ (l : List α) (i : Nat) (s : σ) (x : α), Eu step i (l ++ [x]) s = step (i + l.length) x (Eu step i l s)
 | [], i, s, x => rfl
 | y :: r, i, s, x => by
  show Eu step (i + 1) (r ++ [x]) _ = _
  rw [Aoe step r]
  show step (i + 1 + r.length) x _ = step (i + (r.length + 1)) x _
  rw [show i + 1 + r.length = i + (r.length + 1) by omega]
  rfl
theorem T4 {n : Nat} {p : Nat → Bool} (h : (List.range' 0 n).all p = true) (i : Nat) (hi : i < n) : p i = true := List.all_eq_true.1 h i (by simp [List.mem_range']; omega)
theorem E3 {s : ByteArray} {a b : Int} (h0 : 0 ≤ a) (h1 : a ≤ b) (h2 : b ≤ (s.size : Int)) : (Ag s a b).size = (b - a).toNat := by
 unfold Ag
 rw [ByteArray.size_extract]
 omega
structure Ld (d : Dk) : Prop where
 n8 : 8 ≤ d.1.length
 n200 : d.1.length ≤ 200
 p300 : d.2.1.length ≤ 300
 sec : ∀ i, i < d.1.length → (d.1.getD i z0).size = 64
 pen : ∀ i, i < d.2.1.length → 0 ≤ (d.2.1.getD i zW).1 ∧ (d.2.1.getD i zW).1 < (d.1.length : Int) ∧ (d.2.1.getD i zW).2.1.size = 64
theorem Aay {d : Dk} (h : B8 d = true) : Ld d := by
 obtain ⟨h1, h2⟩ := Cj h
 obtain ⟨h2, h3⟩ := Cj h2
 obtain ⟨h3, h4⟩ := Cj h3
 obtain ⟨k1, k2⟩ := Cj h1
 have k1 := of_decide_eq_true k1
 have k2 := of_decide_eq_true k2
 refine ⟨by omega, by omega, of_decide_eq_true h2, fun i hi => of_decide_eq_true (T4 h3 i hi), fun i hi => ?_⟩
 obtain ⟨q1, q2⟩ := Cj (T4 h4 i hi)
 obtain ⟨q2, q3⟩ := Cj q2
 exact ⟨of_decide_eq_true q1, of_decide_eq_true q2, of_decide_eq_true q3⟩
theorem Xz {α : Type} {xs : List α} {x : α} (z : α) (h : x ∈ xs) : ∃ i, i < xs.length ∧ xs.getD i z = x := by
 obtain ⟨i, hi, rfl⟩ := List.mem_iff_getElem.1 h
 exact ⟨i, hi, by simp [List.getD, List.getElem?_eq_getElem hi]⟩
theorem getD_set_ne {α : Type} {r : List α} {i j : Nat} {x z : α} (h : i ≠ j) : (r.set i x).getD j z = r.getD j z := by
 simp [List.getD, List.getElem?_set_ne h]
theorem P1 (sec : List ByteArray) (ws : List Wr) : (Kk sec ws).length = sec.length :=
 Adp (fun s => s.length = sec.length) _ ws 0 sec (fun i s w _ h => by rw [List.length_set]; exact h) rfl
theorem Asi (sec : List ByteArray) (i : Nat) (hi : i < sec.length) (ws : List Wr) (h : ∀ w ∈ ws, 0 ≤ w.1) :
  (Kk sec ws).getD i z0 = S9 (fun w => w.1 == (i : Int)) (fun w => w.2.1) (sec.getD i z0) ws.reverse := by
 have key : ∀ (rs : List Wr), (∀ w ∈ rs, 0 ≤ w.1) → (Kk sec rs.reverse).getD i z0 = S9 (fun w => w.1 == (i : Int)) (fun w => w.2.1) (sec.getD i z0) rs := by
  intro rs
  induction rs with
  | nil => intro _; rfl
  | cons w r ih =>
   intro hr
   have ih := ih (fun v hv => hr v (List.mem_cons_of_mem _ hv))
   have h0 := hr w (by simp)
   rw [List.reverse_cons]
   unfold Kk at ih ⊢
   rw [Aoe]
   simp only [S9]
   have hlen : (Eu (fun _ (w : Wr) (s : List ByteArray) => s.set w.1.toNat w.2.1) 0 r.reverse sec).length = sec.length := P1 sec r.reverse
   by_cases q : w.1 = (i : Int)
   ·have q2 : w.1.toNat = i := by omega
    rw [q2, Hm (by rw [hlen]; exact hi), q, beq_self_eq_true, cond_true]
   ·have q2 : w.1.toNat ≠ i := by omega
    rw [getD_set_ne q2, ih, show (w.1 == (i : Int)) = false from by simp [q], cond_false]
 have := key ws.reverse (fun w hw => h w (List.mem_reverse.1 hw))
 rwa [List.reverse_reverse] at this
def Asj (n : Nat) (s : List ByteArray) : Prop := s.length = n ∧ ∀ i, i < n → (s.getD i z0).size = 64
theorem Asj.set {n : Nat} {s : List ByteArray} (h : Asj n s) {j : Nat} {x : ByteArray} (hx : x.size = 64) : Asj n (s.set j x) := by
 refine ⟨by rw [List.length_set]; exact h.1, fun i hi => ?_⟩
 by_cases q : j = i
 ·subst q
  rw [Hm (by rw [h.1]; exact hi)]
  exact hx
 ·rw [getD_set_ne q]
  exact h.2 i hi
def Ha : (t : Ty) → t.D → Bool
 | .int _, _ => true
 | .bool, _ => true
 | .str, s => decide (ByteArray.size s ≤ 1073741824)
 | .sl t, xs => decide (List.length xs ≤ 1073741824) && List.all xs (Ha t)
 | .unit, _ => true
 | .pair a b, x => Ha a x.1 && Ha b x.2
theorem Zk : ∀ {t : Ty} {x : t.D}, Ha t x = true → A4 t x = true
 | .int _, _, _ => rfl
 | .bool, _, _ => rfl
 | .str, s, h => decide_eq_true (by have := of_decide_eq_true (show decide (ByteArray.size s ≤ 1073741824) = true from h); show ByteArray.size s < _; omega)
 | .sl t, xs, h => by
  have h : (decide (List.length xs ≤ 1073741824) && List.all xs (Ha t)) = true := h
  obtain ⟨h1, h2⟩ := Cj h
  show (decide (List.length xs < 1152921504606846976) && List.all xs (A4 t)) = true
  rw [decide_eq_true (by have := of_decide_eq_true h1; omega), Bool.true_and]
  exact List.all_eq_true.2 fun a ha => Zk (List.all_eq_true.1 h2 a ha)
 | .unit, _, _ => rfl
 | .pair a b, x, h => by
  have h : (Ha a x.1 && Ha b x.2) = true := h
  obtain ⟨h1, h2⟩ := Cj h
  show (A4 a x.1 && A4 b x.2) = true
  rw [Zk h1, Zk h2]; rfl
theorem Awg {t : Ty} {xs : List t.D} {k : Int} (c : Nat) (hc : mkN t = c) (h1 : 1 ≤ k) (h2 : k ≤ 1125899906842624) (h3 : List.length xs ≤ 1073741824) :
  ∃ k' ys, If t xs k = some (k', ys) ∧ k ≤ k' ∧ k' ≤ k + 1073741824 * (c : Int) ∧ L7 t ys k = some k' := by
 refine ⟨_, _, Azj h1 h2 (by omega), ?_, ?_, ?_⟩
 ·have : (0 : Int) ≤ (List.length xs : Int) * (mkN t : Int) := Int.mul_nonneg (by omega) (by omega)
  omega
 ·rw [hc]
  have : (List.length xs : Int) * (c : Int) ≤ 1073741824 * (c : Int) := Int.mul_le_mul_of_nonneg_right (by omega) (by omega)
  omega
 ·have hl : (mkL t (List.length xs) k).length = List.length xs := Azi _ _ _ _
  rw [Azk h1 h2 (by omega), hl]
  exact congrArg some (if_pos (Xy (.sl t) _))
theorem Tk {α β : Type} {m : Option α} {f : α → Option β} {a : α} {r : Option β} (h : m = some a) (h2 : f a = r) : m.bind f = r := by
 rw [h]; exact h2
theorem Ask {α : Type} {l : List α} {z : α} {P : α → Prop} (h : ∀ i, i < l.length → P (l.getD i z)) : ∀ x ∈ l, P x := by
 intro x hx
 obtain ⟨i, hi, rfl⟩ := List.mem_iff_getElem.1 hx
 have := h i hi
 rw [List.getD_eq_getElem?_getD, List.getElem?_eq_getElem hi] at this
 exact this
theorem d7 (a b : List Int) : strOfNums (a ++ b) = strOfNums a ++ strOfNums b := by
 unfold strOfNums
 rw [List.map_append]
 apply ByteArray.ext
 simp
theorem Eh (a : List Int) : (strOfNums a).size = a.length := by
 unfold strOfNums
 show (List.toArray _).size = _
 simp
theorem X0 (v : Int) : ∀ n, (L1 v n).length = n
 | 0 => rfl
 | n + 1 => by simp only [L1, List.length_append, X0 (v / 256) n, List.length_singleton]
theorem Ii (v : Int) (n : Nat) : (Cv v n).size = n := by unfold Cv; rw [Eh, X0]
theorem Asl (v : Int) (out : ByteArray) : Cv v 0 ++ out = out := by
 apply ByteArray.ext
 simp [Cv, L1, strOfNums]
theorem Azp (s : ByteArray) : s ++ ByteArray.mk #[] = s := by
 apply ByteArray.ext
 simp
theorem Asm (v : Int) (k : Nat) : Cv v (k + 1) = Cv (v / 256) k ++ strOfNums [v % 256] := by
 unfold Cv
 rw [← d7]
 rfl
theorem Fw (s : ByteArray) (i : Int) : 0 ≤ Af s i ∧ Af s i < 256 := by
 unfold Af
 have := (s.data.toList.getD i.toNat 0).toNat_lt
 omega
theorem Awh : ∀ i : Nat, i < 7 → (256 : Int) ^ i ≤ 281474976710656 := by decide
theorem Azq (s : ByteArray) (i : Nat) {k : Nat} {v : Int} (hi : i + (k + 1) = s.size) (hs : i < 7) (h0 : 0 ≤ v) (h1 : v < 256 ^ i) :
  0 ≤ v * 256 + Af s i ∧ v * 256 + Af s i < 256 ^ (i + 1) ∧ IntKind.wrap IntKind.i64 (IntKind.wrap IntKind.i64 (v * 256) + IntKind.wrap IntKind.i64 (Af s i)) = v * 256 + Af s i := by
 obtain ⟨b0, b1⟩ := Fw s i
 have hp : (256 : Int) ^ (i + 1) = 256 ^ i * 256 := Int.pow_succ _ _
 have hle : (256 : Int) ^ i ≤ 281474976710656 := Awh i hs
 refine ⟨by omega, by omega, ?_⟩
 rw [Ad (n := v * 256) (by omega) (by omega), Ad (n := Af s i) (by omega) (by omega), Ad (by omega) (by omega)]
theorem A03 (s : ByteArray) (i : Nat) {k : Nat} {v : Int} (hi : i + (k + 1) = s.size) (hs : i < 7) (h0 : 0 ≤ v) (h1 : v < 256 ^ i) :
  0 ≤ v * 256 + Af s i ∧ v * 256 + Af s i < 256 ^ (i + 1) ∧ IntKind.wrap IntKind.i64 (nI (BitVec.toNat (BitVec.ofInt 64 (IntKind.wrap IntKind.i64 (v * 2 ^ min (Int.toNat 8) 64)) ||| BitVec.ofInt 64 (IntKind.wrap IntKind.i64 (Af s i))))) = v * 256 + Af s i := by
 obtain ⟨b0, b1⟩ := Fw s i
 have hp : (256 : Int) ^ (i + 1) = 256 ^ i * 256 := Int.pow_succ _ _
 have hle : (256 : Int) ^ i ≤ 281474976710656 := Awh i hs
 refine ⟨by omega, by omega, ?_⟩
 have e8 : (v * 2 ^ min (Int.toNat 8) 64 : Int) = v * 256 := rfl
 rw [e8, Ad (n := v * 256) (by omega) (by omega), Ad (n := Af s i) (by omega) (by omega)]
 obtain ⟨n, rfl⟩ : ∃ n : Nat, v = (n : Int) := ⟨v.toNat, by omega⟩
 obtain ⟨b, hb⟩ : ∃ b : Nat, Af s i = (b : Int) := ⟨(Af s i).toNat, by omega⟩
 rw [hb] at b0 b1 ⊢
 have e1 : BitVec.ofInt 64 ((n : Int) * 256) = BitVec.ofNat 64 (n * 256) := by
  rw [show ((n : Int) * 256) = ((n * 256 : Nat) : Int) by omega]; exact BitVec.ofInt_natCast _ _
 have e2 : BitVec.ofInt 64 (b : Int) = BitVec.ofNat 64 b := BitVec.ofInt_natCast _ _
 rw [e1, e2, BitVec.toNat_or, BitVec.toNat_ofNat, BitVec.toNat_ofNat, Nat.mod_eq_of_lt (by omega), Nat.mod_eq_of_lt (by omega)]
 have e3 : n * 256 ||| b = n * 256 + b := by
  have := Nat.shiftLeft_add_eq_or_of_lt (i := 8) (b := b) (by omega) n
  rw [Nat.shiftLeft_eq] at this
  exact this.symm
 rw [e3]
 exact Ad (by simp only [nI]; omega) (by simp only [nI]; omega)
theorem Zl {σ ρ : Type} (n : Nat) (Inv : Nat → σ → Prop) (step : Nat → σ → σ) {g : Nat → Nat → σ → Option ρ} {ok : σ → ρ}
  (hs : ∀ m i s, i < n → Inv i s → g (m + 1) i s = g m (i + 1) (step i s)) (he : ∀ m s, Inv n s → g (m + 1) n s = some (ok s))
  (hI : ∀ i s, i < n → Inv i s → Inv (i + 1) (step i s)) : ∀ k m i s, i + k = n → k < m → Inv i s → g m i s = some (ok (iter step k i s))
 | 0, m + 1, i, s, hi, _, h => by
  obtain rfl : i = n := by omega
  exact he m s h
 | k + 1, m + 1, i, s, hi, hm, h => by
  rw [hs m i s (by omega) h]
  exact Zl n Inv step hs he hI k m (i + 1) _ (by omega) (by omega) (hI i s (by omega) h)
theorem Asn {σ : Type} (Inv : σ → Prop) (f : Nat → σ → σ) (hf : ∀ i s, Inv s → Inv (f i s)) : ∀ k i s, Inv s → Inv (iter f k i s)
 | 0, _, _, h => h
 | k + 1, i, s, h => Asn Inv f hf k (i + 1) _ (hf i s h)
theorem wid (w : Int) : (bif decide (w ≥ 1) then some ((decide (w ≤ 8), ()), ()) else some ((false, ()), ())) = (some ((E9 w 1 8, ()), ()) : Option ((Bool × Unit) × Unit)) := by
 unfold E9
 by_cases h : 1 ≤ w
 ·rw [decide_eq_true (show w ≥ 1 from h)]; rfl
 ·rw [decide_eq_false (show ¬ w ≥ 1 from h)]; rfl
theorem A1v (k : Int) : IntKind.wrap IntKind.u64 k = k % 18446744073709551616 := by
 simp [IntKind.wrap, IntKind.bits, IntKind.signed]
theorem A29 (k : Int) : IntKind.i64.wrap k = if k % 18446744073709551616 ≥ 9223372036854775808 then k % 18446744073709551616 - 18446744073709551616 else k % 18446744073709551616 := by
 simp [IntKind.wrap, IntKind.bits, IntKind.signed]
def U64 (h : Int) : Prop := 0 ≤ h ∧ h < 18446744073709551616
theorem Awi (s : ByteArray) (k i : Nat) {h : Int} (hh : U64 h) : U64 (Adm s k i h) :=
 Asn U64 _ (fun i s _ => by unfold Xx; rw [A1v]; exact ⟨Int.emod_nonneg _ (by decide), Int.emod_lt_of_pos _ (by decide)⟩) k i h hh
theorem Aj1 : ∀ (n : Nat) (v c : Int), L1 (v + 256 ^ n * c) n = L1 v n
 | 0, _, _ => rfl
 | n + 1, v, c => by
  have e : v + 256 ^ (n + 1) * c = v + 256 * (256 ^ n * c) := by rw [Int.pow_succ, Int.mul_comm (256 ^ n) 256, Int.mul_assoc]
  simp only [L1]
  rw [e]
  have e1 : (v + 256 * (256 ^ n * c)) / 256 = v / 256 + 256 ^ n * c := by omega
  have e2 : (v + 256 * (256 ^ n * c)) % 256 = v % 256 := by omega
  rw [e1, e2, Aj1 n]
theorem Aof (n : Nat) : ∀ (w : Nat) (v : Int), (L1 v (n + w)).drop n = L1 v w
 | 0, v => by rw [List.drop_eq_nil_of_le (by rw [X0]; omega)]; rfl
 | w + 1, v => by
  show (L1 (v / 256) (n + w) ++ [v % 256]).drop n = _
  rw [List.drop_append_of_le_length (by rw [X0]; omega), Aof n w]
  rfl
theorem Azr (l : List Int) (a : Nat) : Ag (strOfNums l) (a : Int) (nI (strOfNums l).size) = strOfNums (l.drop a) := by
 unfold Ag
 rw [Eh]
 apply ByteArray.ext
 simp [strOfNums, nI, List.map_drop]
 exact List.take_of_length_le (by simp)
theorem A04 {h w : Int} (hh : U64 h) (h1 : 1 ≤ w) (h8 : w ≤ 8) : Ag (Cv (IntKind.wrap IntKind.i64 h) (Int.toNat 8)) (8 - w) (nI (ByteArray.size (Cv (IntKind.wrap IntKind.i64 h) (Int.toNat 8)))) = Cv h w.toNat := by
 obtain ⟨n, rfl⟩ : ∃ n : Nat, w = (n : Int) := ⟨w.toNat, by omega⟩
 have e8 : Int.toNat 8 = (8 - n) + n := by omega
 have e : (8 - (n : Int)) = ((8 - n : Nat) : Int) := by omega
 rw [e]
 unfold Cv
 have hd : L1 (IntKind.wrap IntKind.i64 h) (Int.toNat 8) = L1 h (Int.toNat 8) := by
  by_cases q : h < 9223372036854775808
  ·rw [Ad (by have := hh.1; omega) q]
  ·have : IntKind.wrap IntKind.i64 h = h + 256 ^ 8 * (-1) := by
    have h6 : (256 : Int) ^ 8 = 18446744073709551616 := by decide
    have := hh.2
    rw [h6]
    rw [A29]
    split <;> omega
   rw [this]
   exact Aj1 8 h (-1)
 rw [hd, Azr, e8, Aof]
 rfl
theorem T5 {s : ByteArray} {w : Int} (h : E9 w 1 8 = true) : (Aap s w).size = w.toNat := by
 unfold Aap; rw [h]; exact Ii _ _
theorem A3q : ∀ n : Nat, n ≤ 64 → m6 (ByteArray.mk #[0]) (n : Int) = some (strOfNums (List.replicate n 0)) := by decide +kernel
theorem Ql {p : Pg} {w : Int} (h : Ig p w = true) : E9 w 1 8 = true ∧ 1 ≤ w ∧ w ≤ 8 ∧ (p.2.2.2.1.size : Int) ≤ 56 - w := by
 obtain ⟨h1, h2⟩ := Cj h
 obtain ⟨_, h2⟩ := Cj h2
 obtain ⟨_, h2⟩ := Cj h2
 obtain ⟨_, h2⟩ := Cj h2
 exact ⟨h1, of_decide_eq_true (Cj h1).1, of_decide_eq_true (Cj h1).2, of_decide_eq_true (Cj h2).1⟩
theorem Hb {v lo hi : Int} (h : E9 v lo hi = true) : lo ≤ v ∧ v ≤ hi := ⟨of_decide_eq_true (Cj h).1, of_decide_eq_true (Cj h).2⟩
theorem X3 {p : Pg} {w : Int} (h : Ig p w = true) : (1 ≤ p.1 ∧ p.1 ≤ 4) ∧ (1 ≤ p.2.1 ∧ p.2.1 ≤ 60000) ∧ (1 ≤ p.2.2.1 ∧ p.2.2.1 ≤ 1000000000) := by
 obtain ⟨_, h2⟩ := Cj h
 obtain ⟨h3, h2⟩ := Cj h2
 obtain ⟨h4, h2⟩ := Cj h2
 obtain ⟨h5, h2⟩ := Cj h2
 exact ⟨Hb h3, Hb h4, Hb h5⟩
theorem Aj2 (x lo hi : Int) {ρ : Type} (f t : ρ) : (bif decide (x < lo) then f else bif decide (x > hi) then f else t) = bif E9 x lo hi then t else f := by
 unfold E9
 by_cases h1 : x < lo
 ·rw [decide_eq_true h1, decide_eq_false (show ¬ lo ≤ x by omega)]; rfl
 ·rw [decide_eq_false h1, decide_eq_true (show lo ≤ x by omega)]
  by_cases h2 : x > hi
  ·rw [decide_eq_true h2, decide_eq_false (show ¬ x ≤ hi by omega)]; rfl
  ·rw [decide_eq_false h2, decide_eq_true (show x ≤ hi by omega)]; rfl
theorem Aj3 {α β : Type} (f : α → List β) (z : α) (xs : List α) : ∀ k i r, i + k = xs.length → iter (fun i r => r ++ f (xs.getD i z)) k i r = r ++ ((xs.drop i).map f).flatten
 | 0, i, r, h => by
  rw [List.drop_eq_nil_of_le (by omega)]
  simp [iter]
 | k + 1, i, r, h => by
  rw [Ih xs i z (by omega)]
  simp only [iter, List.map_cons, List.flatten_cons]
  rw [Aj3 f z xs k (i + 1) _ (by omega), List.append_assoc]
theorem Lx (a b : ByteArray) : Aa (a ++ b) = Aa a ++ Aa b := by
 unfold Aa
 simp
theorem Cp (s : ByteArray) : (Aa s).length = s.size := by
 unfold Aa
 rw [List.length_map]
 rfl
theorem Le (l : List Int) (h : D6 l = true) : Aa (strOfNums l) = l := by
 unfold Aa strOfNums
 show (List.map _ (List.map _ l)) = l
 rw [List.map_map]
 conv => rhs; rw [← List.map_id l]
 refine List.map_congr_left fun x hx => ?_
 have := List.all_eq_true.1 h x hx
 obtain ⟨h1, h2⟩ := Cj this
 have h1 := of_decide_eq_true h1
 have h2 := of_decide_eq_true h2
 show (((UInt8.ofNat x.toNat).toNat : Nat) : Int) = x
 rw [UInt8.toNat_ofNat']
 rw [Nat.mod_eq_of_lt (by omega)]
 omega
theorem P8 (s : ByteArray) : D6 (Aa s) = true := by
 refine List.all_eq_true.2 fun x hx => ?_
 obtain ⟨b, _, rfl⟩ := List.mem_map.1 hx
 have := b.toNat_lt
 show (decide (0 ≤ (b.toNat : Int)) && decide ((b.toNat : Int) < 256)) = true
 rw [decide_eq_true (by omega), decide_eq_true (by omega)]
 rfl
theorem Gg (a b : List Int) : D6 (a ++ b) = (D6 a && D6 b) := List.all_append
theorem A05 (n : Nat) (h : n < 256) : Cv (nI n) 1 = strOfNums [nI n] := by
 unfold Cv
 simp only [L1, List.nil_append]
 rw [show nI n % 256 = nI n by simp only [nI]; omega]
theorem Aih (n : Nat) (h : n < 256) : D6 [nI n] = true := by
 show ((decide (0 ≤ nI n) && decide (nI n < 256)) && true) = true
 rw [decide_eq_true (by simp only [nI]; omega), decide_eq_true (by simp only [nI]; omega)]
 rfl
theorem Aso (n : Nat) (h : n < 256) : Aa (Cv (nI n) 1) = [nI n] := by
 rw [A05 n h, Le _ (Aih n h)]
theorem A1w (n : Nat) (h : n < 256) : IntKind.wrap IntKind.u8 (nI n) = nI n := by
 show nI n % 256 = nI n
 simp only [nI]; omega
theorem Zm {c : Chg} (h : L8 c = true) : 1 ≤ c.1.size ∧ c.1.size ≤ 20 ∧ c.2.1.size ≤ 100 := by
 obtain ⟨h1, h2⟩ := Cj h
 obtain ⟨h2, _⟩ := Cj h2
 have := Hb h1
 have := of_decide_eq_true h2
 omega
theorem R7 {c : Chg} (h : L8 c = true) : D6 (P0 c) = true ∧ (P0 c).length ≤ 200 := by
 obtain ⟨k1, k2, k3⟩ := Zm h
 unfold P0
 have a1 := Aih c.1.size (by omega)
 have a2 := Aih c.2.1.size (by omega)
 have b1 : D6 [1, nI c.1.size] = true := by
  rw [show [1, nI c.1.size] = [1] ++ [nI c.1.size] from rfl, Gg, a1]; rfl
 have b0 : D6 [0, nI c.1.size] = true := by
  rw [show [0, nI c.1.size] = [0] ++ [nI c.1.size] from rfl, Gg, a1]; rfl
 cases c.2.2.1
 ·simp only [cond_false, Gg, b0, a2, P8, List.length_append, Cp, List.length_cons, List.length_nil]
  exact ⟨rfl, by omega⟩
 ·simp only [cond_true, Gg, b1, P8, List.length_append, Cp, List.length_cons, List.length_nil]
  exact ⟨rfl, by omega⟩
theorem Oi {b : List Chg} (h : Bd b = true) : b.length ≤ 20 ∧ ∀ i, i < b.length → L8 (b.getD i zC) = true := by
 obtain ⟨h1, h2⟩ := Cj h
 refine ⟨by have := (Hb h1).2; omega, fun i hi => ?_⟩
 exact List.all_eq_true.1 h2 i (List.mem_range'_1.2 ⟨by omega, by omega⟩)
def Aj4 (i : Nat) (r : List Int) : Prop := r.length ≤ 200 * i ∧ D6 r = true
theorem Aj4.step {i : Nat} {r : List Int} {c : Chg} (h : Aj4 i r) (hc : L8 c = true) : Aj4 (i + 1) (r ++ P0 c) := by
 obtain ⟨q1, q2⟩ := R7 hc
 exact ⟨by rw [List.length_append]; have := h.1; omega, by rw [Gg, h.2, q1]; rfl⟩
theorem Asp {b : List Chg} (h : ∀ i, i < b.length → L8 (b.getD i zC) = true) : ∀ k i r, i + k = b.length → Aj4 i r → Aj4 b.length (iter (fun i r => r ++ P0 (b.getD i zC)) k i r)
 | 0, i, r, e, hr => by
  obtain rfl : i = b.length := by omega
  exact hr
 | k + 1, i, r, e, hr => Asp h k (i + 1) _ (by omega) (hr.step (h i (by omega)))
theorem Tc {a b : ByteArray} (h : Aa a = Aa b) : a = b := by
 apply ByteArray.ext
 apply Array.ext'
 unfold Aa at h
 exact (List.map_inj_right (fun x y e => UInt8.toNat_inj.1 (by omega))).1 h
theorem Jl (s : ByteArray) (a b : Nat) : Aa (Ag s a b) = ((Aa s).drop a).take (b - a) := by
 unfold Aa Ag
 simp [List.map_drop, List.map_take]
theorem Awj {a b : ByteArray} (h : (a.toList == b.toList) = true) : a = b := by
 have h := eq_of_beq h
 rw [ByteArray.toList_eq, ByteArray.toList_eq] at h
 apply ByteArray.ext
 exact Array.ext' h
theorem A2o {s : ByteArray} (h : Aa s = []) : s = ByteArray.mk #[] := Tc h
theorem Aaz {s : ByteArray} (h : 0 < s.size) : Aa s = Af s 0 :: Aa (Ag s 1 (nI s.size)) := by
 have hc := Jl s 1 s.size
 have e : Ag s 1 (nI s.size) = Ag s ((1 : Nat) : Int) ((s.size : Nat) : Int) := rfl
 rw [e, hc]
 have hl := Cp s
 cases hb : Aa s with
 | nil => rw [hb] at hl; simp at hl; omega
 | cons x r =>
  have hx : Af s 0 = x := by
   unfold Af
   unfold Aa at hb
   cases hd : s.data.toList with
   | nil => rw [hd] at hb; simp at hb
   | cons y q => rw [hd] at hb; simp at hb; simp [hb.1]
  rw [hx, List.drop_one, List.tail_cons, List.take_of_length_le]
  rw [hb] at hl
  simp at hl
  omega
theorem Afx {s : ByteArray} (h : (Av s).2.2 = true) : Aa s = nI (Av s).1.size :: (Aa (Av s).1 ++ Aa (Av s).2.1) := by
 unfold Av at h ⊢
 split at h
 ·cases h
 ·rename_i hc
  rw [if_neg hc]
  obtain ⟨b0, b1⟩ := Fw s 0
  have h0 : 0 < s.size := by omega
  rw [Aaz h0]
  obtain ⟨n, hn⟩ : ∃ n : Nat, Af s 0 = (n : Int) := ⟨(Af s 0).toNat, by omega⟩
  have e1 : (Ag s 1 (1 + Af s 0)).size = n := by rw [E3 (by omega) (by omega) (by omega)]; omega
  simp only [e1]
  rw [hn]
  congr 1
  have q1 : Ag s 1 (nI s.size) = Ag s ((1 : Nat) : Int) ((s.size : Nat) : Int) := rfl
  have q2 : Ag s 1 (1 + (n : Int)) = Ag s ((1 : Nat) : Int) ((1 + n : Nat) : Int) := by rw [show (1 + (n : Int)) = ((1 + n : Nat) : Int) by omega] <;> rfl
  have q3 : Ag s (1 + (n : Int)) (nI s.size) = Ag s ((1 + n : Nat) : Int) ((s.size : Nat) : Int) := by rw [show (1 + (n : Int)) = ((1 + n : Nat) : Int) by omega] <;> rfl
  rw [q1, q2, q3, Jl, Jl, Jl]
  have hl := Cp s
  rw [List.take_of_length_le (by rw [List.length_drop]; omega), show 1 + n - 1 = n by omega, List.take_of_length_le (l := List.drop (1 + n) (Aa s)) (by rw [List.length_drop]; omega), ← List.drop_drop]
  exact (List.take_append_drop n _).symm
theorem Qm {s k t : ByteArray} (hk : k.size < 256) (h : Aa s = nI k.size :: (Aa k ++ Aa t)) : Av s = (k, t, true) := by
 have hl := Cp s
 have hlk := Cp k
 have hlt := Cp t
 rw [h, List.length_cons, List.length_append, hlk, hlt] at hl
 have h0 : 0 < s.size := by omega
 have hh := Aaz h0
 rw [h] at hh
 have hb : Af s 0 = nI k.size := (List.cons.inj hh).1.symm
 have ht := (List.cons.inj hh).2
 unfold Av
 rw [hb, if_neg (by simp only [nI]; omega)]
 have q1 : Ag s 1 (1 + nI k.size) = Ag s ((1 : Nat) : Int) ((1 + k.size : Nat) : Int) := by rw [show (1 + nI k.size) = ((1 + k.size : Nat) : Int) by simp only [nI]; omega] <;> rfl
 have q2 : Ag s (1 + nI k.size) (nI s.size) = Ag s ((1 + k.size : Nat) : Int) ((s.size : Nat) : Int) := by rw [show (1 + nI k.size) = ((1 + k.size : Nat) : Int) by simp only [nI]; omega] <;> rfl
 have hd : (Aa s).drop 1 = Aa k ++ Aa t := by rw [h]; rfl
 have e1 : Ag s 1 (1 + nI k.size) = k := by
  apply Tc
  rw [q1, Jl, hd, show 1 + k.size - 1 = k.size by omega, List.take_append_of_le_length (by omega), List.take_of_length_le (by omega)]
 have e2 : Ag s (1 + nI k.size) (nI s.size) = t := by
  apply Tc
  rw [q2, Jl, ← List.drop_drop, hd, List.drop_append_of_le_length (by omega), List.drop_of_length_le (by omega), List.nil_append, List.take_of_length_le (by omega)]
 rw [e1, e2]
theorem Au2 {s : ByteArray} (h0 : 0 < s.size) {c : Chg} {t : ByteArray} (h : Afu true s = some (c, t)) : Aa s = P0 c ++ Aa t := by
 unfold Afu at h
 rw [Aaz h0]
 obtain ⟨b0, b1⟩ := Fw s 0
 by_cases g1 : Af s 0 > 1
 ·rw [decide_eq_true g1] at h; cases h
 ·rw [decide_eq_false g1] at h
  have hp := @Afx (Ag s 1 (nI s.size))
  generalize Av (Ag s 1 (nI s.size)) = p at *
  obtain ⟨k, u, o⟩ := p
  cases o
  ·cases h
  ·rw [hp rfl]
   by_cases g2 : Af s 0 = 1
   ·rw [g2] at h ⊢
    cases h
    simp [P0]
   ·have g3 : Af s 0 = 0 := by omega
    rw [g3] at h ⊢
    have hq := @Afx u
    have h : (bif !(Av u).2.2 then none else some ((k, (Av u).1, false, ()), (Av u).2.1)) = some (c, t) := h
    generalize Av u = q at *
    obtain ⟨v, w, o⟩ := q
    cases o
    ·cases h
    ·cases h
     have := hq rfl
     simp only at this ⊢
     rw [this]
     simp [P0]
theorem Aml {s : ByteArray} {c : Chg} {t : ByteArray} (hc : L8 c = true) (h : Aa s = P0 c ++ Aa t) (b : Bool) : 0 < s.size ∧ Afu b s = some (c, t) := by
 obtain ⟨k1, k2, k3⟩ := Zm hc
 obtain ⟨k, v, g, u⟩ := c
 have hl := Cp s
 have h0 : 0 < s.size := by
  rw [h, List.length_append] at hl
  unfold P0 at hl
  cases g <;> simp at hl <;> omega
 refine ⟨h0, ?_⟩
 have hh := Aaz h0
 rw [h] at hh
 unfold Afu
 cases g
 ·have e : P0 (k, v, false, u) ++ Aa t = 0 :: (nI k.size :: (Aa k ++ (nI v.size :: (Aa v ++ Aa t)))) := by simp [P0]
  rw [e] at hh
  have hb : Af s 0 = 0 := (List.cons.inj hh).1.symm
  have ht := (List.cons.inj hh).2.symm
  have a2 := Aih v.size (by have : v.size ≤ 100 := k3; omega)
  have ev : Aa (strOfNums (nI v.size :: (Aa v ++ Aa t))) = nI v.size :: (Aa v ++ Aa t) := Le _ (by
   rw [show nI v.size :: (Aa v ++ Aa t) = [nI v.size] ++ (Aa v ++ Aa t) from rfl, Gg, Gg, a2, P8, P8]; rfl)
  have p1 := Qm (s := Ag s 1 (nI s.size)) (k := k) (t := strOfNums (nI v.size :: (Aa v ++ Aa t))) (by have : k.size ≤ 20 := k2; omega) (by rw [ev]; exact ht)
  have p2 := Qm (s := strOfNums (nI v.size :: (Aa v ++ Aa t))) (k := v) (t := t) (by have : v.size ≤ 100 := k3; omega) ev
  rw [p1, hb]
  show (bif b && false then none else (bif !(Av (strOfNums (nI v.size :: (Aa v ++ Aa t)))).2.2 then none else some ((k, (Av (strOfNums (nI v.size :: (Aa v ++ Aa t)))).1, false, ()), (Av (strOfNums (nI v.size :: (Aa v ++ Aa t)))).2.1))) = _
  rw [p2, Bool.and_false]
  rfl
 ·have hv : v = ByteArray.mk #[] := by
   obtain ⟨_, h2⟩ := Cj hc
   obtain ⟨_, h2⟩ := Cj h2
   have h2 : (!(true && !(v.toList == []))) = true := h2
   have h3 : (v.toList == []) = true := by cases hq : (v.toList == []) <;> rw [hq] at h2 <;> first | rfl | cases h2
   have h3 := eq_of_beq h3
   rw [ByteArray.toList_eq] at h3
   apply ByteArray.ext
   exact Array.ext' h3
  subst hv
  have e : P0 (k, ByteArray.mk #[], true, u) ++ Aa t = 1 :: (nI k.size :: (Aa k ++ Aa t)) := by simp [P0]
  rw [e] at hh
  have hb : Af s 0 = 1 := (List.cons.inj hh).1.symm
  have ht := (List.cons.inj hh).2.symm
  have p1 := Qm (s := Ag s 1 (nI s.size)) (k := k) (t := t) (by have : k.size ≤ 20 := k2; omega) ht
  rw [p1, hb]
  cases b <;> rfl
theorem Afy : ∀ (f : Nat) (r : List Chg) (s : ByteArray) {b : List Chg} {t : ByteArray}, Lc true f r s = some (b, t) → ∃ cs, b = r ++ cs ∧ Aa s = F1 cs ++ Aa t
 | 0, r, s, b, t, h => by
  cases h
  exact ⟨[], by simp, by simp [F1]⟩
 | f + 1, r, s, b, t, h => by
  unfold Lc at h
  by_cases q : (decide (s.size > 0) && decide (r.length ≤ 20)) = true
  ·rw [q] at h
   have h0 := of_decide_eq_true (Cj q).1
   cases hs : Afu true s with
   | none => rw [hs] at h; cases h
   | some ct =>
    obtain ⟨c, u⟩ := ct
    rw [hs] at h
    obtain ⟨cs, e1, e2⟩ := Afy f (r ++ [c]) u h
    refine ⟨c :: cs, by rw [e1, List.append_assoc]; rfl, ?_⟩
    rw [Au2 h0 hs, e2]
    simp [F1]
  ·rw [Bool.eq_false_iff.2 q] at h
   cases h
   exact ⟨[], by simp, by simp [F1]⟩
theorem Qn (strict : Bool) : ∀ (cs : List Chg) (f : Nat) (r : List Chg) (s : ByteArray), cs.length < f → r.length + cs.length ≤ 20 → (∀ c ∈ cs, L8 c = true) → Aa s = F1 cs → Lc strict f r s = some (r ++ cs, ByteArray.mk #[])
 | [], f + 1, r, s, _, _, _, h => by
  have hz := A2o (s := s) h
  subst hz
  rw [List.append_nil]
  rfl
 | c :: cs, f + 1, r, s, hf, hr, hok, h => by
  have hb : Aa (strOfNums (F1 cs)) = F1 cs := Le _ (List.all_eq_true.2 fun x hx => by
   obtain ⟨l, hl, hx⟩ := List.mem_flatten.1 hx
   obtain ⟨d, hd, rfl⟩ := List.mem_map.1 hl
   exact List.all_eq_true.1 (R7 (hok d (List.mem_cons_of_mem _ hd))).1 x hx)
  obtain ⟨h0, hs⟩ := Aml (s := s) (c := c) (t := strOfNums (F1 cs)) (hok c (by simp)) (by rw [hb, h]; rfl) strict
  unfold Lc
  rw [hs, decide_eq_true (show s.size > 0 from h0), decide_eq_true (show r.length ≤ 20 by rw [List.length_cons] at hr; omega)]
  have ih := Qn strict cs f (r ++ [c]) (strOfNums (F1 cs)) (by rw [List.length_cons] at hf; omega) (by rw [List.length_append, List.length_singleton]; rw [List.length_cons] at hr; omega) (fun d hd => hok d (List.mem_cons_of_mem _ hd)) hb
  rw [List.append_assoc] at ih
  exact ih
theorem Au3 (s : ByteArray) : strOfNums (Aa s) = s := Tc (Le _ (P8 s))
theorem Axs {b : List Chg} (h : ∀ c ∈ b, L8 c = true) : D6 (F1 b) = true := List.all_eq_true.2 fun x hx => by
 obtain ⟨l, hl, hx⟩ := List.mem_flatten.1 hx
 obtain ⟨d, hd, rfl⟩ := List.mem_map.1 hl
 exact List.all_eq_true.1 (R7 (h d hd)).1 x hx
theorem Adq {b : List Chg} (h : Bd b = true) : 1 ≤ b.length ∧ b.length ≤ 20 ∧ ∀ c ∈ b, L8 c = true := by
 obtain ⟨h1, h2⟩ := Oi h
 refine ⟨by have := (Hb (Cj h).1).1; omega, h1, Ask (z := zC) (P := fun c => L8 c = true) h2⟩
theorem Awk {s : ByteArray} {b : List Chg} (hv : Bd b = true) (hs : Aa s = F1 b) : Jr s = (b, true) ∧ Ajx s = (b, true) := by
 obtain ⟨h1, h2, h3⟩ := Adq hv
 have p1 := Qn true b 22 [] s (by omega) (by simpa using h2) h3 hs
 have p2 := Qn false b 22 [] s (by omega) (by simpa using h2) h3 hs
 have hf : Ff b = s := by
  unfold Ff
  rw [hv, ← hs, cond_true, Au3]
 have hz : (s.size == 0) = false := by
  refine beq_eq_false_iff_ne.2 fun q => ?_
  cases b with
  | nil => simp at h1
  | cons c r =>
   have := Cp s
   rw [q, hs] at this
   unfold F1 P0 at this
   cases hg : c.2.2.1 <;> simp [hg] at this
 unfold Jr Ajx
 rw [p1, p2]
 simp only [List.nil_append]
 rw [hv, hf, hz, beq_self_eq_true]
 exact ⟨rfl, rfl⟩
theorem Awl {s : ByteArray} (h : ∀ b, Bd b = true → Aa s ≠ F1 b) : Jr s = ([], false) ∧ Ajx s = ([], false) := by
 constructor
 ·unfold Jr
  cases hp : Lc true 22 [] s with
  | none => rfl
  | some bt =>
   obtain ⟨b, t⟩ := bt
   simp only
   obtain ⟨cs, e1, e2⟩ := Afy 22 [] s hp
   rw [List.nil_append] at e1
   subst e1
   by_cases ht : t.size > 0
   ·rw [decide_eq_true ht]; rfl
   ·cases hv : Bd b with
    | false => rw [Bool.not_false, Bool.or_true]; rfl
    | true =>
     have h0 : Aa t = [] := List.length_eq_zero_iff.1 (by rw [Cp]; omega)
     rw [h0, List.append_nil] at e2
     exact absurd e2 (h b hv)
 ·unfold Ajx
  cases hp : Lc false 22 [] s with
  | none => rfl
  | some bt =>
   obtain ⟨b, t⟩ := bt
   simp only
   by_cases hz : s.size = 0
   ·rw [hz]; rfl
   ·rw [beq_eq_false_iff_ne.2 hz, Bool.false_or]
    cases he : ((Ff b).toList == s.toList) with
    | false => rfl
    | true =>
     have e := Awj he
     cases hv : Bd b with
     | false =>
      unfold Ff at e
      rw [hv] at e
      subst e
      exact absurd rfl hz
     | true =>
      unfold Ff at e
      rw [hv] at e
      have e : strOfNums (F1 b) = s := e
      have := congrArg Aa e
      rw [Le _ (Axs (Adq hv).2.2)] at this
      exact absurd this.symm (h b hv)
theorem Axt (s : ByteArray) : Ajx s = Jr s := by
 by_cases h : ∃ b, Bd b = true ∧ Aa s = F1 b
 ·obtain ⟨b, h1, h2⟩ := h
  rw [(Awk h1 h2).1, (Awk h1 h2).2]
 ·have h' : ∀ b, Bd b = true → Aa s ≠ F1 b := fun b h1 h2 => h ⟨b, h1, h2⟩
  rw [(Awl h').1, (Awl h').2]
def Ags (v b : Int) : Int := v * 256 + b
theorem Vz (s : ByteArray) (i : Nat) : Af s i = (Aa s).getD i 0 := by
 unfold Af Aa
 simp only [Int.toNat_natCast, List.getD_eq_getElem?_getD, List.getElem?_map]
 cases s.data.toList[i]? <;> rfl
theorem Asq (s : ByteArray) : ∀ k i v, i + k = s.size → Asf s k i v = ((Aa s).drop i).foldl Ags v
 | 0, i, v, h => by rw [List.drop_of_length_le (by rw [Cp]; omega)]; rfl
 | k + 1, i, v, h => by
  rw [Ih (Aa s) i 0 (by rw [Cp]; omega), List.foldl_cons, ← Vz]
  exact Asq s k (i + 1) _ (by omega)
theorem Awm (s : ByteArray) : Xw s = (Aa s).foldl Ags 0 := by
 unfold Xw
 rw [Asq s s.size 0 0 (by omega), List.drop_zero]
theorem Asr (v : Int) : ∀ (n : Nat) (l : List Int), l.length = n → D6 l = true → L1 (l.foldl Ags v) n = l
 | 0, l, h, _ => by rw [List.length_eq_zero_iff.1 h]; rfl
 | n + 1, l, h, ha => by
  obtain ⟨q, b, rfl⟩ : ∃ q b, l = q ++ [b] := ⟨l.dropLast, l.getLast (by intro e; subst e; simp at h), (List.dropLast_concat_getLast _).symm⟩
  rw [Gg] at ha
  obtain ⟨h1, h2⟩ := Cj ha
  have hb : 0 ≤ b ∧ b < 256 := by
   have := List.all_eq_true.1 h2 b (by simp)
   exact ⟨of_decide_eq_true (Cj this).1, of_decide_eq_true (Cj this).2⟩
  rw [List.foldl_append]
  simp only [List.foldl_cons, List.foldl_nil, L1]
  have e1 : Ags (q.foldl Ags v) b / 256 = q.foldl Ags v := by unfold Ags; omega
  have e2 : Ags (q.foldl Ags v) b % 256 = b := by unfold Ags; omega
  rw [e1, e2, Asr v n q (by simpa using h) h1]
theorem Ass : ∀ (n : Nat) (v : Int), 0 ≤ v → v < 256 ^ n → (L1 v n).foldl Ags 0 = v
 | 0, v, h0, h1 => by
  have : v < 1 := h1
  show (0 : Int) = v
  omega
 | n + 1, v, h0, h1 => by
  have hp : (256 : Int) ^ (n + 1) = 256 ^ n * 256 := Int.pow_succ _ _
  simp only [L1, List.foldl_append, List.foldl_cons, List.foldl_nil]
  rw [Ass n (v / 256) (by omega) (by omega)]
  unfold Ags
  omega
theorem Ast : ∀ (n : Nat) (v : Int), D6 (L1 v n) = true
 | 0, _ => rfl
 | n + 1, v => by
  simp only [L1, Gg, Ast n]
  show (true && ((decide (0 ≤ v % 256) && decide (v % 256 < 256)) && true)) = true
  rw [decide_eq_true (by omega), decide_eq_true (by omega)]
  rfl
theorem Kc (v : Int) (n : Nat) : Aa (Cv v n) = L1 v n := Le _ (Ast n v)
theorem Asu {v : Int} {n : Nat} (h0 : 0 ≤ v) (h1 : v < 256 ^ n) : Xw (Cv v n) = v := by rw [Awm, Kc, Ass n v h0 h1]
theorem Azs (s : ByteArray) : Cv (Xw s) s.size = s := by
 apply Tc
 rw [Kc, Awm]
 exact Asr 0 s.size _ (Cp s) (P8 s)
theorem Axu (n : Nat) : D6 (List.replicate n 0) = true := List.all_eq_true.2 fun x hx => by
 rw [List.eq_of_mem_replicate hx]; rfl
theorem m9 (p : Pg) (w : Int) : Aa (Fv p w) = L1 p.1 1 ++ (L1 p.2.1 2 ++ (L1 p.2.2.1 4 ++ (L1 p.2.2.2.1.size 1 ++ (Aa p.2.2.2.1 ++ List.replicate (56 - w - p.2.2.2.1.size).toNat 0)))) := by
 unfold Fv
 rw [Lx, Lx, Lx, Lx, Lx, Kc, Kc, Kc, Kc, Le _ (Axu _)]
 simp only [List.append_assoc]
theorem Aog {p : Pg} {w : Int} (h : Ig p w = true) : (Fv p w).size = (64 - w).toNat := by
 obtain ⟨hw, k1, k2, kp⟩ := Ql h
 rw [← Cp, m9]
 simp only [List.length_append, X0, Cp, List.length_replicate]
 omega
theorem Aj5 {p : Pg} {w : Int} (h : Ig p w = true) : (Db p w).size = 64 ∧ Ag (Db p w) w (nI (Db p w).size) = Fv p w := by
 obtain ⟨hw, k1, k2, kp⟩ := Ql h
 have e : Db p w = Aap (Fv p w) w ++ Fv p w := by unfold Db; rw [h]; rfl
 have hs : (Db p w).size = 64 := by rw [e, ByteArray.size_append, T5 hw, Aog h]; omega
 refine ⟨hs, ?_⟩
 obtain ⟨n, rfl⟩ : ∃ n : Nat, w = (n : Int) := ⟨w.toNat, by omega⟩
 apply Tc
 have q : Ag (Db p n) n (nI (Db p n).size) = Ag (Db p n) (n : Nat) ((64 : Nat) : Int) := by rw [hs] <;> rfl
 rw [q, Jl, e, Lx, List.drop_append_of_le_length (by rw [Cp, T5 hw]; omega), List.drop_of_length_le (by rw [Cp, T5 hw]; omega), List.nil_append, List.take_of_length_le (by rw [Cp, Aog h]; omega)]
theorem Azt {p : Pg} {w : Int} (h : Ig p w = true) : Auz (Fv p w) = p := by
 obtain ⟨hw, k1, k2, kp⟩ := Ql h
 obtain ⟨r1, r2, r3⟩ := X3 h
 have hb := m9 p w
 have d1 : ∀ v : Int, L1 v 1 = [v % 256] := fun v => rfl
 have d2 : ∀ v : Int, L1 v 2 = [v / 256 % 256, v % 256] := fun v => rfl
 have d4 : ∀ v : Int, L1 v 4 = [v / 256 / 256 / 256 % 256, v / 256 / 256 % 256, v / 256 % 256, v % 256] := fun v => rfl
 have b7 : Af (Fv p w) 7 = p.2.2.2.1.size := by
  have := Vz (Fv p w) 7
  rw [hb, d1, d2, d4, d1] at this
  refine this.trans ?_
  show (p.2.2.2.1.size : Int) % 256 = _
  omega
 have b0 : Af (Fv p w) 0 = p.1 := by
  have := Vz (Fv p w) 0
  rw [hb, d1] at this
  refine this.trans ?_
  show p.1 % 256 = _
  omega
 have c1 : Ag (Fv p w) 1 3 = Cv p.2.1 2 := by
  apply Tc
  have := Jl (Fv p w) 1 3
  rw [hb, d1, d2, d4, d1] at this
  exact this.trans (by rw [Kc, d2]; rfl)
 have c3 : Ag (Fv p w) 3 7 = Cv p.2.2.1 4 := by
  apply Tc
  have := Jl (Fv p w) 3 7
  rw [hb, d1, d2, d4, d1] at this
  exact this.trans (by rw [Kc, d4]; rfl)
 have c8 : Ag (Fv p w) 8 (8 + (p.2.2.2.1.size : Int)) = p.2.2.2.1 := by
  apply Tc
  have := Jl (Fv p w) 8 (8 + p.2.2.2.1.size)
  rw [hb, d1, d2, d4, d1] at this
  refine this.trans ?_
  show List.take (8 + p.2.2.2.1.size - 8) (Aa p.2.2.2.1 ++ _) = _
  rw [show 8 + p.2.2.2.1.size - 8 = p.2.2.2.1.size by omega, List.take_append_of_le_length (by rw [Cp]; omega), List.take_of_length_le (by rw [Cp]; omega)]
 have p2 : (256 : Int) ^ 2 = 65536 := by decide
 have p4 : (256 : Int) ^ 4 = 4294967296 := by decide
 unfold Auz
 rw [b7, b0, c1, c3, c8, Asu (by omega) (by omega), Asu (by omega) (by omega)]
theorem Axv {p : Pg} {w : Int} (h : Ig p w = true) : Cm (Db p w) w = (p, true) := by
 obtain ⟨hw, k1, k2, kp⟩ := Ql h
 obtain ⟨hs, ht⟩ := Aj5 h
 have hr := Azt h
 have b7 : Af (Fv p w) 7 = p.2.2.2.1.size := by
  have := Vz (Fv p w) 7
  rw [m9] at this
  refine this.trans ?_
  show (p.2.2.2.1.size : Int) % 256 = _
  omega
 unfold Cm Au0
 rw [ht, hr, hw, hs, b7, beq_self_eq_true, decide_eq_false (by omega)]
 rfl
theorem Qo {s : ByteArray} {w : Int} {p : Pg} (h : Cm s w = (p, true)) : s.size = 64 ∧ E9 w 1 8 = true ∧ Db p w = s ∧ Ig p w = true := by
 unfold Cm at h
 cases h1 : (nI s.size != 64) with
 | true => rw [h1] at h; cases h
 | false =>
  cases h2 : E9 w 1 8 with
  | false => rw [h1, h2] at h; cases h
  | true =>
   cases h3 : decide (Af (Ag s w (nI s.size)) 7 > 56 - w) with
   | true => rw [h1, h2, h3] at h; cases h
   | false =>
    cases h4 : ((Db (Au0 s w) w).toList == s.toList) with
    | false => rw [h1, h2, h3, h4] at h; cases h
    | true =>
     rw [h1, h2, h3, h4] at h
     have e : Au0 s w = p := congrArg Prod.fst h
     rw [e] at h4
     have e2 := Awj h4
     have hs : s.size = 64 := by
      by_cases q : nI s.size = 64
      ·simp only [nI] at q; omega
      ·rw [(bne_iff_ne).2 q] at h1; cases h1
     refine ⟨hs, rfl, e2, ?_⟩
     cases hp : Ig p w with
     | true => rfl
     | false =>
      unfold Db at e2
      rw [hp] at e2
      subst e2
      cases hs
theorem Axw {s : ByteArray} {w : Int} {p : Pg} (h : Cm s w = (p, true)) (h5 : p.2.2.2.1.size = 5) :
  ((Qk (Jp p) w).toList == s.toList) = ((p.1 == 4) && L9 (Jp p)) := by
 obtain ⟨hs, hw, hf, hp⟩ := Qo h
 cases hr : L9 (Jp p) with
 | false =>
  rw [Bool.and_false]
  cases q : ((Qk (Jp p) w).toList == s.toList) with
  | false => rfl
  | true =>
   have e := Awj q
   unfold Qk at e
   rw [hr] at e
   subst e
   cases hs
 | true =>
  rw [Bool.and_true]
  have hpart : Cv (Jp p).2.1 1 ++ Cv (Jp p).2.2.1 4 = p.2.2.2.1 := by
   apply Tc
   have e4 : (Ag p.2.2.2.1 1 (nI p.2.2.2.1.size)).size = 4 := by rw [E3 (by omega) (by simp only [nI]; omega) (by simp [nI])]; simp only [nI, h5]; decide
   have e5 : Cv (Xw (Ag p.2.2.2.1 1 (nI p.2.2.2.1.size))) 4 = Ag p.2.2.2.1 1 (nI p.2.2.2.1.size) := by
    have := Azs (Ag p.2.2.2.1 1 (nI p.2.2.2.1.size))
    rw [e4] at this
    exact this
   show Aa (Cv (Af p.2.2.2.1 0) 1 ++ Cv (Xw (Ag p.2.2.2.1 1 (nI p.2.2.2.1.size))) 4) = _
   obtain ⟨b0, b1⟩ := Fw p.2.2.2.1 0
   rw [e5, Lx, Kc, Aaz (s := p.2.2.2.1) (by omega)]
   show [Af p.2.2.2.1 0 % 256] ++ _ = _
   rw [show Af p.2.2.2.1 0 % 256 = Af p.2.2.2.1 0 by omega]
   rfl
  have hR : Qk (Jp p) w = Db (4, p.2.1, p.2.2.1, p.2.2.2.1, ()) w := by
   unfold Qk
   rw [hr, hpart]
   rfl
  rw [hR]
  by_cases hk : p.1 = 4
  ·have e : ((4, p.2.1, p.2.2.1, p.2.2.2.1, ()) : Pg) = p := by rw [← hk]
   rw [e, hf, hk, beq_self_eq_true]
   rfl
  ·rw [beq_eq_false_iff_ne.2 hk]
   cases q : ((Db (4, p.2.1, p.2.2.1, p.2.2.2.1, ()) w).toList == s.toList) with
   | false => rfl
   | true =>
    have e := Awj q
    cases ho : Ig (4, p.2.1, p.2.2.1, p.2.2.2.1, ()) w with
    | false =>
     unfold Db at e
     rw [ho] at e
     subst e
     cases hs
    | true =>
     have r := Axv ho
     rw [e, h] at r
     exact absurd (congrArg (fun x : Pg × Bool => x.1.1) r) hk
theorem Axx {a n : Int} (hn : 0 < n) : (a + n - 1) / n = 1 + (a - n + n - 1) / n := by
 have : a + n - 1 = (a - n + n - 1) + n * 1 := by omega
 rw [this, Int.add_mul_ediv_left _ _ (by omega)]
 omega
theorem Aoh (n : Nat) (hn : 1 ≤ n) : ∀ (f : Nat) (s : ByteArray), s.size ≤ f → ((Ez n f s).length : Int) = if ((s.size : Int) + n - 1) / n > 1 then ((s.size : Int) + n - 1) / n else 1
 | 0, s, h => by
  have h0 : s.size = 0 := by omega
  simp only [Ez, h0]
  have : (((0 : Nat) : Int) + n - 1) / n = 0 := Int.ediv_eq_zero_of_lt (by omega) (by omega)
  exact (if_neg (by rw [this]; decide)).symm
 | f + 1, s, h => by
  by_cases q : s.size > n
  ·have hc : (Ag s n (nI s.size)).size = s.size - n := by rw [E3 (by omega) (by simp only [nI]; omega) (by simp [nI])]; simp only [nI]; omega
   simp only [Ez, if_pos q, List.length_cons]
   have ih := Aoh n hn f (Ag s n (nI s.size)) (by omega)
   rw [hc] at ih
   have e := Axx (a := s.size) (n := n) (by omega)
   have e2 : ((s.size - n : Nat) : Int) = (s.size : Int) - n := by omega
   rw [e2] at ih
   have hp : 1 ≤ ((s.size : Int) - n + n - 1) / n := by
    rw [Int.le_ediv_iff_mul_le (by omega)]
    omega
   rw [e]
   generalize ((s.size : Int) - n + n - 1) / n = y at *
   rw [if_pos (by omega)]
   split at ih <;> omega
  ·simp only [Ez, if_neg q]
   have : ((s.size : Int) + n - 1) / n < 2 := by
    rw [Int.ediv_lt_iff_lt_mul (by omega)]
    omega
   exact (if_neg (by omega)).symm
theorem n0 {s : ByteArray} {w : Int} (hw : E9 w 1 8 = true) : ((Ci s w).length : Int) = if ((s.size : Int) + (56 - w) - 1) / (56 - w) > 1 then ((s.size : Int) + (56 - w) - 1) / (56 - w) else 1 := by
 obtain ⟨h1, h2⟩ := Hb hw
 obtain ⟨n, hn⟩ : ∃ n : Nat, 56 - w = (n : Int) := ⟨(56 - w).toNat, by omega⟩
 unfold Ci
 rw [hn, Int.toNat_natCast]
 exact Aoh n (by omega) s.size s (Nat.le_refl _)
theorem R8 (life w : Int) : ∀ (L : List ByteArray) (k : Int), Afv life w k L = (List.range' 0 L.length).map (fun i => Db ((if i + 1 = L.length then 2 else 1), life, k + (i : Int), L.getD i z0, ()) w)
 | [], k => rfl
 | [p], k => by
  show [Db (2, life, k, p, ()) w] = [Db ((if 0 + 1 = 1 then 2 else 1), life, k + ((0 : Nat) : Int), p, ()) w]
  rw [if_pos rfl, show k + ((0 : Nat) : Int) = k by omega]
 | p :: q :: r, k => by
  have ih := R8 life w (q :: r) (k + 1)
  show Db (1, life, k, p, ()) w :: Afv life w (k + 1) (q :: r) = (List.range' 0 ((q :: r).length + 1)).map (fun i => Db ((if i + 1 = (q :: r).length + 1 then 2 else 1), life, k + (i : Int), (p :: q :: r).getD i z0, ()) w)
  rw [ih, List.range'_succ, List.map_cons]
  congr 1
  ·rw [if_neg (by rw [List.length_cons]; omega), show k + ((0 : Nat) : Int) = k by omega]
   rfl
  ·rw [show List.range' (0 + 1) (q :: r).length = List.map (fun x => 1 + x) (List.range' 0 (q :: r).length) by rw [List.map_add_range'], List.map_map]
   refine List.map_congr_left fun i _ => ?_
   show _ = Db ((if 1 + i + 1 = (q :: r).length + 1 then 2 else 1), life, k + ((1 + i : Nat) : Int), (p :: q :: r).getD (1 + i) z0, ()) w
   rw [show k + ((1 + i : Nat) : Int) = k + 1 + (i : Int) by omega, show 1 + i = i + 1 by omega]
   by_cases e : i + 1 = (q :: r).length
   ·rw [if_pos e, if_pos (by omega)]; rfl
   ·rw [if_neg e, if_neg (by omega)]; rfl
theorem Aoi {β : Type} (g : Nat → β) : ∀ k i (r : List β), iter (fun i r => r ++ [g i]) k i r = r ++ (List.range' i k).map g
 | 0, i, r => by simp [iter]
 | k + 1, i, r => by
  simp only [iter]
  rw [Aoi g k (i + 1), List.range'_succ, List.map_cons, List.append_assoc]
  rfl
theorem V0 (p : Pg) (w : Int) : (Db p w).size ≤ 64 := by
 cases h : Ig p w with
 | true => rw [(Aj5 h).1]; exact Nat.le_refl _
 | false => unfold Db; rw [h]; show (ByteArray.mk #[]).size ≤ 64; decide
theorem Au4 (life w : Int) : ∀ (L : List ByteArray) (k : Int), (Afv life w k L).length = L.length ∧ ∀ x ∈ Afv life w k L, x.size ≤ 64 := by
 intro L k
 rw [R8]
 refine ⟨by simp, fun x hx => ?_⟩
 obtain ⟨i, _, rfl⟩ := List.mem_map.1 hx
 exact V0 _ _
theorem Ld.sync {d : Dk} (h : Ld d) : Ld (Ase d) := by
 have hl := P1 d.1 d.2.1
 have hs : Asj d.1.length (Kk d.1 d.2.1) := Adp (Asj d.1.length) _ d.2.1 0 d.1 (fun i s w hw hI => hI.set (Ask (z := zW) (P := fun w : Wr => w.2.1.size = 64) (fun i hi => (h.pen i hi).2.2) w hw)) ⟨rfl, h.sec⟩
 exact ⟨by show 8 ≤ (Kk d.1 d.2.1).length; rw [hl]; exact h.n8, by show (Kk d.1 d.2.1).length ≤ 200; rw [hl]; exact h.n200, by show (0 : Nat) ≤ 300; omega, fun i hi => hs.2 i (by rw [← hl]; exact hi), fun i hi => absurd hi (by show ¬ i < 0; omega)⟩
theorem Ld.op {d : Dk} (h : Ld d) (o : Opn) : Ld (opS d o) := by
 unfold opS
 cases o.1 with
 | true => exact h.sync
 | false =>
  cases hc : Agr d.1.length (o.2.1, o.2.2.1, ()) && decide (d.2.1.length < 300) with
  | false => exact h
  | true =>
   obtain ⟨h1, h2⟩ := Cj hc
   obtain ⟨q1, q2⟩ := Cj h1
   obtain ⟨q2, q3⟩ := Cj q2
   have h2 := of_decide_eq_true h2
   refine ⟨h.n8, h.n200, by show (d.2.1 ++ [(o.2.1, o.2.2.1, ())]).length ≤ 300; rw [List.length_append, List.length_singleton]; omega, h.sec, fun i hi => ?_⟩
   have hi : i < d.2.1.length + 1 := by
    have hi : i < (d.2.1 ++ [(o.2.1, o.2.2.1, ())]).length := hi
    rw [List.length_append, List.length_singleton] at hi
    exact hi
   show 0 ≤ ((d.2.1 ++ [(o.2.1, o.2.2.1, ())]).getD i zW).1 ∧ ((d.2.1 ++ [(o.2.1, o.2.2.1, ())]).getD i zW).1 < (d.1.length : Int) ∧ ((d.2.1 ++ [(o.2.1, o.2.2.1, ())]).getD i zW).2.1.size = 64
   by_cases e : i < d.2.1.length
   ·have : (d.2.1 ++ [(o.2.1, o.2.2.1, ())]).getD i zW = d.2.1.getD i zW := by
     rw [List.getD_eq_getElem?_getD, List.getElem?_append_left e, ← List.getD_eq_getElem?_getD]
    rw [this]
    exact h.pen i e
   ·obtain rfl : i = d.2.1.length := by omega
    have : (d.2.1 ++ [(o.2.1, o.2.2.1, ())]).getD d.2.1.length zW = (o.2.1, o.2.2.1, ()) := by
     rw [List.getD_eq_getElem?_getD, List.getElem?_append_right (Nat.le_refl _), Nat.sub_self]
     rfl
    rw [this]
    exact ⟨of_decide_eq_true q1, of_decide_eq_true q2, of_decide_eq_true q3⟩
theorem Ld.ops : ∀ (l : List Opn) {d : Dk}, Ld d → Ld (l.foldl opS d)
 | [], _, h => h
 | o :: r, _, h => Ld.ops r (h.op o)
theorem X5 (n : Nat) : ∀ (f : Nat) (s : ByteArray), (Ez n f s).length ≤ f + 1
 | 0, s => by simp [Ez]
 | f + 1, s => by
  unfold Ez
  split
  ·rw [List.length_cons]
   have := X5 n f (Ag s n (nI s.size))
   omega
  ·simp
end Go.Proofs.YteaoabdlcefkhaaGreat.V

