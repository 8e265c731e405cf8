/- Plain facts. No condition. -/
import Derived.Test.YteaoabdlcefkhaaGreatMBase
namespace Go.Proofs.YteaoabdlcefkhaaGreat.V
open Go Go.Proofs.YteaoabdlcefkhaaGreat.R
set_option linter.unusedVariables false
set_option linter.unusedSimpArgs false
theorem Ag {n : Int} (h0 : -9223372036854775808 ≤ n) (h1 : n < 9223372036854775808) : IntKind.i64.wrap n = n := by
 have e : IntKind.i64.wrap n = if n % 18446744073709551616 ≥ 9223372036854775808 then n % 18446744073709551616 - 18446744073709551616 else n % 18446744073709551616 := by
  simp [IntKind.wrap, IntKind.bits, IntKind.signed]
 rw [e]
 split <;> omega
theorem Iw {α : Type} (xs : List α) (i : Nat) (z : α) (h : i < xs.length) : xs.drop i = xs.getD i z :: xs.drop (i + 1) := by
 rw [List.drop_eq_getElem_cons h]
 simp [List.getD, List.getElem?_eq_getElem h]
theorem Kn {α : Type} {xs : List α} {i : Nat} (z : α) (h : i < xs.length) : xs.getD i z ∈ xs := by
 simp [List.getD, List.getElem?_eq_getElem h]
theorem Mg {i n : Nat} (h : i < n) : decide ((i : Int) < nI n) = true := by simp [nI]; omega
theorem Hx {n : Nat} : decide ((n : Int) < nI n) = false := by simp [nI]
theorem Fh {i : Nat} : decide ((0 : Int) ≤ (i : Int)) = true := by simp
theorem A28 {i n : Nat} (h : i < n) : decide (i < n) = true := by simp [h]
theorem wI {i : Nat} (h : i < 4611686018427387904) : IntKind.i64.wrap ((i : Int) + 1) = ((i + 1 : Nat) : Int) := by rw [Ag (by omega) (by omega)]; rfl
theorem Acw {α E : Type} {xs : List α} (z : α) (w : α → Nat) {g : Nat → Int → Int → Option E} {ok : Int → E} {bad : E}
  (hs : ∀ m (i : Nat) l, i < xs.length → 0 ≤ l → l ≤ 1048576 → g (m + 1) l i = bif decide (l - (w (xs.getD i z) : Int) < 0) then some bad else g m (l - w (xs.getD i z)) ((i + 1 : Nat) : Int))
  (he : ∀ m l, g (m + 1) l (xs.length : Int) = some (ok l)) :
  ∀ (m i : Nat) (l : Int), i ≤ xs.length → xs.length - i < m → 0 ≤ l → l ≤ 1048576 → g m l i = some (if l - (((xs.drop i).map w).sum : Int) < 0 then bad else ok (l - ((xs.drop i).map w).sum))
 | 0, i, l, hi, hm, _, _ => by omega
 | m + 1, i, l, hi, hm, h0, h1 => by
  by_cases h : i < xs.length
  ·rw [hs m i l h h0 h1, Iw xs i z h, List.map_cons, List.sum_cons, Int.natCast_add (w (xs.getD i z))]
   by_cases q : l - (w (xs.getD i z) : Int) < 0
   ·have q2 : l - ((w (xs.getD i z) : Int) + (((xs.drop (i + 1)).map w).sum : Int)) < 0 := by omega
    rw [decide_eq_true q, cond_true, if_pos q2]
   ·rw [decide_eq_false q, cond_false, Acw z w hs he m (i + 1) _ (by omega) (by omega) (by omega) (by omega)]
    simp only [Int.sub_sub]
  ·have : i = xs.length := by omega
   subst this
   rw [he]
   simp only [List.drop_length, List.map_nil, List.sum_nil]
   have : ¬ (l - ((0 : Nat) : Int) < 0) := by simp; omega
   rw [if_neg this]
   simp
theorem Acx {α E : Type} {xs : List α} (z : α) {g : Nat → Int → List α → Option E} {ok : List α → E}
  (hs : ∀ m (i : Nat) (r : List α), i < xs.length → r.length = xs.length → g (m + 1) i r = g m ((i + 1 : Nat) : Int) (r.set i (xs.getD i z)))
  (he : ∀ m r, g (m + 1) (xs.length : Int) r = some (ok r)) :
  ∀ (m i : Nat) (r : List α), i ≤ xs.length → xs.length - i < m → r.length = xs.length → g m i r = some (ok (r.take i ++ xs.drop i))
 | 0, i, l, hi, hm, _ => by omega
 | m + 1, i, r, hi, hm, hr => by
  by_cases h : i < xs.length
  ·rw [hs m i r h hr, Acx z hs he m (i + 1) _ (by omega) (by omega) (by simp [hr]), Iw xs i z h]
   have : (r.set i (xs.getD i z)).take (i + 1) = r.take i ++ [xs.getD i z] := by
    rw [List.take_add_one, List.take_set_of_le (Nat.le_refl i), List.getElem?_set_self (by omega)]
    rfl
   rw [this, List.append_assoc]
   rfl
  ·have : i = xs.length := by omega
   subst this
   rw [he, List.drop_length, List.append_nil, ← hr, List.take_length]
theorem W6 {α : Type} {f : α → α → Bool} : ∀ {xs ys : List α}, xs.length ≠ ys.length → eqL f xs ys = false
 | [], [], h => absurd rfl h
 | [], _ :: _, _ => rfl
 | _ :: _, [], _ => rfl
 | x :: xs, y :: ys, h => by
  simp only [eqL]
  rw [W6 (by simpa using h), Bool.and_false]
theorem W7 {α E : Type} {xs ys : List α} (z : α) (f : α → α → Bool) {g : Nat → Int → Option E} {ok bad : E} (hl : ys.length = xs.length)
  (hs : ∀ m (i : Nat), i < xs.length → g (m + 1) i = bif f (xs.getD i z) (ys.getD i z) then g m ((i + 1 : Nat) : Int) else some bad)
  (he : ∀ m, g (m + 1) (xs.length : Int) = some ok) :
  ∀ (m i : Nat), i ≤ xs.length → xs.length - i < m → g m i = some (bif eqL f (xs.drop i) (ys.drop i) then ok else bad)
 | 0, i, hi, hm => by omega
 | m + 1, i, hi, hm => by
  by_cases h : i < xs.length
  ·rw [hs m i h, Iw xs i z h, Iw ys i z (by omega)]
   simp only [eqL]
   cases f (xs.getD i z) (ys.getD i z) with
   | false => rfl
   | true =>
    rw [cond_true, W7 z f hl hs he m (i + 1) (by omega) (by omega), Bool.true_and]
  ·have : i = xs.length := by omega
   subst this
   have hy : ys.drop xs.length = [] := List.drop_eq_nil_of_le (by omega)
   rw [he, List.drop_length, hy]
   rfl
theorem Ix {E : Type} {n : Nat} {g : Nat → Int → Option E} {ok bad : E} (p : Nat → Bool)
  (hs : ∀ m (i : Nat), i < n → g (m + 1) i = bif p i then g m ((i + 1 : Nat) : Int) else some bad)
  (he : ∀ m, g (m + 1) (n : Int) = some ok) :
  ∀ (m i : Nat), i ≤ n → n - i < m → g m i = some (bif (List.range' i (n - i)).all p then ok else bad)
 | 0, i, hi, hm => by omega
 | m + 1, i, hi, hm => by
  by_cases h : i < n
  ·have e : n - i = (n - (i + 1)) + 1 := by omega
   rw [hs m i h, e, List.range'_succ, List.all_cons]
   cases p i with
   | false => rfl
   | true =>
    rw [cond_true, Ix p hs he m (i + 1) (by omega) (by omega), Bool.true_and]
  ·have : i = n := by omega
   subst this
   rw [he, Nat.sub_self]
   rfl
theorem A5s {a b c : Bool} (h : (a && b && c) = true) : a = true ∧ b = true ∧ c = true := by
 cases a <;> cases b <;> cases c <;> first | exact ⟨rfl, rfl, rfl⟩ | cases h
theorem Cj {a b : Bool} (h : (a && b) = true) : a = true ∧ b = true := by
 cases a <;> cases b <;> first | exact ⟨rfl, rfl⟩ | cases h
theorem Ju {t : Ty} {xs : List t.D} (h : A2 (.sl t) xs = true) : List.length xs < 1152921504606846976 ∧ ∀ x ∈ xs, A2 t x = true := by
 obtain ⟨h1, h2⟩ := Cj h
 exact ⟨of_decide_eq_true h1, List.all_eq_true.1 h2⟩
theorem l3 {t : Ty} {xs : List t.D} (h : D0 (.sl t) xs = true) : List.length xs ≤ 1048576 ∧ ∀ x ∈ xs, D0 t x = true := by
 obtain ⟨h1, h2⟩ := Cj h
 exact ⟨of_decide_eq_true h1, List.all_eq_true.1 h2⟩
theorem Af {a b : Ty} {x : a.D × b.D} (h : A2 (.pair a b) x = true) : A2 a x.1 = true ∧ A2 b x.2 = true := Cj h
theorem Cz {a b : Ty} {x : a.D × b.D} (h : D0 (.pair a b) x = true) : D0 a x.1 = true ∧ D0 b x.2 = true := Cj h
theorem l4 {x : ByteArray} (h : A2 .str x = true) : ByteArray.size x < 1152921504606846976 := of_decide_eq_true h
theorem Lm {t : Ty} {x : t.D} {l r : Int} (h : szM t x l = some r) : A2 t x = true ∧ 0 ≤ l ∧ l ≤ 1048576 ∧ (if l - (wt t x : Int) < 0 then -1 else l - (wt t x : Int)) = r := by
 unfold szM at h
 split at h
 ·rename_i hc
  obtain ⟨h1, h2, h3⟩ := A5s hc
  exact ⟨h1, of_decide_eq_true h2, of_decide_eq_true h3, Option.some.inj h⟩
 ·cases h
theorem Qh {t : Ty} {x : t.D} {l : Int} (h1 : A2 t x = true) (h2 : 0 ≤ l) (h3 : l ≤ 1048576) : szM t x l = some (if l - (wt t x : Int) < 0 then -1 else l - (wt t x : Int)) := by
 unfold szM
 rw [if_pos (by rw [h1, decide_eq_true h2, decide_eq_true h3]; rfl)]
theorem Ko {t : Ty} {x r : t.D} (h : toM t x = some r) : D0 t x = true ∧ x = r := by
 unfold toM at h
 split at h
 ·exact ⟨by assumption, Option.some.inj h⟩
 ·cases h
theorem Up {t : Ty} {x : t.D} (h : D0 t x = true) : toM t x = some x := if_pos h
theorem Kq {t : Ty} {x y : t.D} {r : Bool} (h : eqM t x y = some r) : A2 t x = true ∧ A2 t y = true ∧ Mc t x y = r := by
 unfold eqM at h
 split at h
 ·rename_i hc
  obtain ⟨h1, h2⟩ := Cj hc
  exact ⟨h1, h2, Option.some.inj h⟩
 ·cases h
theorem Qi {t : Ty} {x y : t.D} (h1 : A2 t x = true) (h2 : A2 t y = true) : eqM t x y = some (Mc t x y) := by
 unfold eqM
 rw [if_pos (by rw [h1, h2]; rfl)]
theorem Aid (a b : Int) : (a != b) = !Xq a b := by
 unfold Xq
 by_cases h : a = b <;> simp [h, bne]
theorem Ll {α : Type} {r : List α} {i : Nat} {x z : α} (h : i < r.length) : (r.set i x).getD i z = x := by
 simp [List.getD, h]
theorem Zj (n : Nat) (c : Nat) : decide (nI n > (c : Int)) = !decide (n ≤ c) := by
 by_cases q : n ≤ c
 ·have : ¬ (nI n > (c : Int)) := by simp [nI]; omega
  rw [decide_eq_true q, decide_eq_false this]; rfl
 ·have : nI n > (c : Int) := by simp [nI]; omega
  rw [decide_eq_false q, decide_eq_true this]; rfl
theorem Az3 (n c : Nat) : (nI n != (c : Int)) = !decide (n = c) := by
 by_cases q : n = c
 ·subst q; simp [nI]
 ·have : ¬ (nI n = (c : Int)) := by simp [nI]; omega
  rw [decide_eq_false q, Aid]; unfold Xq; rw [decide_eq_false this]
theorem gt0 (i : Nat) : decide ((i : Int) > 0) = !(i == 0) := by
 cases i with
 | zero => rfl
 | succ j =>
  have : ((j + 1 : Nat) : Int) > 0 := by omega
  rw [decide_eq_true this]; rfl
theorem wP (j : Nat) (h : j < 4611686018427387904) : IntKind.i64.wrap (((j + 1 : Nat) : Int) - 1) = (j : Int) := by rw [Ag (by omega) (by omega)]; omega
theorem Akm : ∀ {t : Ty} {x : t.D}, Acs t x → A2 t x = true
 | .int _, _, _ => rfl
 | .bool, _, _ => rfl
 | .str, s, h => by
  have h : ByteArray.size s ≤ reachBytes := h
  have : reachBytes < 1152921504606846976 := by decide
  exact decide_eq_true (by omega)
 | .sl t, xs, h => by
  obtain ⟨h1, h2⟩ := h
  have : reachBytes < 1152921504606846976 := by decide
  show (decide (List.length xs < 1152921504606846976) && List.all xs (A2 t)) = true
  rw [decide_eq_true (by omega), Bool.true_and]
  refine List.all_eq_true.2 fun x hx => ?_
  obtain ⟨i, hi, rfl⟩ := List.mem_iff_getElem.1 hx
  exact Akm (h2 i _ (List.getElem?_eq_getElem hi))
 | .unit, _, _ => rfl
 | .pair a b, x, h => by
  show (A2 a x.1 && A2 b x.2) = true
  rw [Akm h.1, Akm h.2]
  rfl
theorem Ayt {α : Type} (f : α → Nat) : ∀ {xs : List α} {x : α}, x ∈ xs → f x ≤ (xs.map f).sum
 | [], _, h => by cases h
 | y :: r, x, h => by
  rw [List.map_cons, List.sum_cons]
  rcases List.mem_cons.1 h with rfl | h
  ·omega
  ·have := Ayt f h
   omega
theorem Acy : ∀ {t : Ty} {x : t.D}, wt t x ≤ 1048576 → D0 t x = true
 | .int _, _, _ => rfl
 | .bool, _, _ => rfl
 | .str, _, _ => rfl
 | .sl t, xs, h => by
  have h : List.length xs + (List.map (wt t) xs).sum ≤ 1048576 := h
  show (decide (List.length xs ≤ 1048576) && List.all xs (D0 t)) = true
  rw [decide_eq_true (by omega), Bool.true_and]
  refine List.all_eq_true.2 fun x hx => Acy ?_
  have := Ayt (wt t) hx
  omega
 | .unit, _, _ => rfl
 | .pair a b, x, h => by
  have h : wt a x.1 + wt b x.2 ≤ 1048576 := h
  show (D0 a x.1 && D0 b x.2) = true
  rw [Acy (by omega), Acy (by omega)]
  rfl
theorem Auw {α : Type} {f : α → α → Bool} (h : ∀ x, f x x = true) : ∀ xs, eqL f xs xs = true
 | [] => rfl
 | x :: r => by simp only [eqL, h, Auw h r, Bool.and_self]
theorem A1r (x : Int) : Xq x x = true := decide_eq_true rfl
theorem A1s (x : Bool) : eqO x x = true := by cases x <;> rfl
theorem A1t (x : ByteArray) : eqS x x = true := by unfold eqS; simp
theorem Acz : ∀ (t : Ty) (x : t.D), Mc t x x = true
 | .int _, x => A1r x
 | .bool, x => A1s x
 | .str, x => A1t x
 | .sl t, xs => Auw (Acz t) xs
 | .unit, _ => rfl
 | .pair a b, x => by
  show (Mc a x.1 x.1 && Mc b x.2 x.2) = true
  rw [Acz, Acz]
  rfl
theorem A1u {t : Ty} {x : t.D} (h : A2 t x = true) : eqM t x x = some true := (Qi h h).trans (congrArg some (Acz t x))
theorem A1v {t : Ty} {x : t.D} {l0 : Int} (h : A2 t x = true) (h0 : 0 ≤ l0) (h1 : l0 ≤ 1048576) {m : Option Int} (hm : m = szM t x l0) :
  m = some (-1) ∨ ∃ l : Int, m = some l ∧ 0 ≤ l ∧ l ≤ 1048576 ∧ D0 t x = true ∧ decide (l < 0) = false := by
 subst hm
 rw [Qh h h0 h1]
 by_cases q : l0 - (wt t x : Int) < 0
 ·rw [if_pos q]; exact .inl rfl
 ·rw [if_neg q]
  exact .inr ⟨_, rfl, by omega, by omega, Acy (by omega), decide_eq_false q⟩
theorem A5a : decide ((-1 : Int) < 0) = true := rfl
theorem Aat {α E F : Type} (f : E → F) (p : α → Bool) (out : α → E) (ok : E) : ∀ l, f (Uo p out ok l) = Uo p (fun x => f (out x)) (f ok) l
 | [] => rfl
 | x :: r => by
  simp only [Uo]
  cases p x with
  | true => rfl
  | false => exact Aat f p out ok r
theorem Al4 {α E : Type} {xs : List α} (z : α) (p : α → Bool) (out : α → E) {g : Nat → Int → Option E} {ok : E}
  (hs : ∀ m (i : Nat), i < xs.length → g (m + 1) i = bif p (xs.getD i z) then some (out (xs.getD i z)) else g m ((i : Int) - 1))
  (he : ∀ m, g (m + 1) (-1) = some ok) :
  ∀ (m i : Nat), i ≤ xs.length → i < m → g m ((i : Int) - 1) = some (Uo p out ok (xs.take i).reverse)
 | 0, i, hi, hm => by omega
 | m + 1, 0, hi, hm => by
  rw [show ((0 : Nat) : Int) - 1 = -1 from rfl, he]
  rfl
 | m + 1, i + 1, hi, hm => by
  have e : (((i + 1 : Nat) : Int) - 1) = (i : Int) := by omega
  have h : i < xs.length := by omega
  have e2 : (xs.take (i + 1)).reverse = xs.getD i z :: (xs.take i).reverse := by
   rw [List.take_add_one, List.getElem?_eq_getElem h, Option.toList_some, List.reverse_append, List.reverse_singleton]
   simp [List.getD, List.getElem?_eq_getElem h]
  rw [e, hs m i h, e2]
  simp only [Uo]
  cases p (xs.getD i z) with
  | true => rfl
  | false => rw [cond_false, cond_false, Al4 z p out hs he m i (by omega) (by omega)]
theorem Aqz {α σ E : Type} {xs : List α} (z : α) (Inv : σ → Prop) (step : Nat → α → σ → σ) {g : Nat → Int → σ → Option E} {ok : σ → E}
  (hs : ∀ m (i : Nat) s, i < xs.length → Inv s → g (m + 1) i s = g m ((i + 1 : Nat) : Int) (step i (xs.getD i z) s))
  (hi : ∀ i s, i < xs.length → Inv s → Inv (step i (xs.getD i z) s))
  (he : ∀ m s, Inv s → g (m + 1) (xs.length : Int) s = some (ok s)) :
  ∀ (m i : Nat) s, i ≤ xs.length → xs.length - i < m → Inv s → g m i s = some (ok (Fb step i (xs.drop i) s))
 | 0, i, s, _, hm, _ => by omega
 | m + 1, i, s, hl, hm, hI => by
  by_cases h : i < xs.length
  ·rw [hs m i s h hI, Aqz z Inv step hs hi he m (i + 1) _ (by omega) (by omega) (hi i s h hI), Iw xs i z h]
   rfl
  ·have : i = xs.length := by omega
   subst this
   rw [he _ _ hI, List.drop_length]
   rfl
theorem Afd {α σ : Type} (Inv : σ → Prop) (step : Nat → α → σ → σ) : ∀ (l : List α) (i : Nat) (s : σ), (∀ i s x, x ∈ l → Inv s → Inv (step i x s)) → Inv s → Inv (Fb step i l s)
 | [], _, _, _, h => h
 | x :: r, i, s, hs, h => Afd Inv step r (i + 1) _ (fun i s y hy => hs i s y (List.mem_cons_of_mem _ hy)) (hs i s x (by simp) h)
theorem Aq0 {α σ : Type} (step : Nat → α → σ → σ) : ∀ (l : List α) (i : Nat) (s : σ) (x : α), Fb step i (l ++ [x]) s = step (i + l.length) x (Fb step i l s)
 | [], i, s, x => rfl
 | y :: r, i, s, x => by
  show Fb step (i + 1) (r ++ [x]) _ = _
  rw [Aq0 step r]
  show step (i + 1 + r.length) x _ = step (i + (r.length + 1)) x _
  rw [show i + 1 + r.length = i + (r.length + 1) by omega]
  rfl
theorem l5 {n : Nat} {p : Nat → Bool} (h : (List.range' 0 n).all p = true) (i : Nat) (hi : i < n) : p i = true := List.all_eq_true.1 h i (by simp [List.mem_range']; omega)
theorem Fp {s : ByteArray} {a b : Int} (h0 : 0 ≤ a) (h1 : a ≤ b) (h2 : b ≤ (s.size : Int)) : (Ah s a b).size = (b - a).toNat := by
 unfold Ah
 rw [ByteArray.size_extract]
 omega
structure Mh (d : Dk) : Prop where
 n8 : 8 ≤ d.1.length
 n200 : d.1.length ≤ 200
 p300 : d.2.1.length ≤ 300
 sec : ∀ i, i < d.1.length → (d.1.getD i z0).size = 64
 pen : ∀ i, i < d.2.1.length → 0 ≤ (d.2.1.getD i zW).1 ∧ (d.2.1.getD i zW).1 < (d.1.length : Int) ∧ (d.2.1.getD i zW).2.1.size = 64
theorem l6 {d : Dk} (h : Bp d = true) : Mh d := by
 obtain ⟨h1, h2⟩ := Cj h
 obtain ⟨h2, h3⟩ := Cj h2
 obtain ⟨h3, h4⟩ := Cj h3
 obtain ⟨k1, k2⟩ := Cj h1
 have k1 := of_decide_eq_true k1
 have k2 := of_decide_eq_true k2
 refine ⟨by omega, by omega, of_decide_eq_true h2, fun i hi => of_decide_eq_true (l5 h3 i hi), fun i hi => ?_⟩
 obtain ⟨q1, q2⟩ := Cj (l5 h4 i hi)
 obtain ⟨q2, q3⟩ := Cj q2
 exact ⟨of_decide_eq_true q1, of_decide_eq_true q2, of_decide_eq_true q3⟩
theorem Ac0 {α : Type} {xs : List α} {x : α} (z : α) (h : x ∈ xs) : ∃ i, i < xs.length ∧ xs.getD i z = x := by
 obtain ⟨i, hi, rfl⟩ := List.mem_iff_getElem.1 h
 exact ⟨i, hi, by simp [List.getD, List.getElem?_eq_getElem hi]⟩
theorem getD_set_ne {α : Type} {r : List α} {i j : Nat} {x z : α} (h : i ≠ j) : (r.set i x).getD j z = r.getD j z := by
 simp [List.getD, List.getElem?_set_ne h]
theorem Rf (sec : List ByteArray) (ws : List Wr) : (Lg sec ws).length = sec.length :=
 Afd (fun s => s.length = sec.length) _ ws 0 sec (fun i s w _ h => by rw [List.length_set]; exact h) rfl
theorem Aux (sec : List ByteArray) (i : Nat) (hi : i < sec.length) (ws : List Wr) (h : ∀ w ∈ ws, 0 ≤ w.1) :
  (Lg sec ws).getD i z0 = Uo (fun w => w.1 == (i : Int)) (fun w => w.2.1) (sec.getD i z0) ws.reverse := by
 have key : ∀ (rs : List Wr), (∀ w ∈ rs, 0 ≤ w.1) → (Lg sec rs.reverse).getD i z0 = Uo (fun w => w.1 == (i : Int)) (fun w => w.2.1) (sec.getD i z0) rs := by
  intro rs
  induction rs with
  | nil => intro _; rfl
  | cons w r ih =>
   intro hr
   have ih := ih (fun v hv => hr v (List.mem_cons_of_mem _ hv))
   have h0 := hr w (by simp)
   rw [List.reverse_cons]
   unfold Lg at ih ⊢
   rw [Aq0]
   simp only [Uo]
   have hlen : (Fb (fun _ (w : Wr) (s : List ByteArray) => s.set w.1.toNat w.2.1) 0 r.reverse sec).length = sec.length := Rf sec r.reverse
   by_cases q : w.1 = (i : Int)
   ·have q2 : w.1.toNat = i := by omega
    rw [q2, Ll (by rw [hlen]; exact hi), q, beq_self_eq_true, cond_true]
   ·have q2 : w.1.toNat ≠ i := by omega
    rw [getD_set_ne q2, ih, show (w.1 == (i : Int)) = false from by simp [q], cond_false]
 have := key ws.reverse (fun w hw => h w (List.mem_reverse.1 hw))
 rwa [List.reverse_reverse] at this
def Auy (n : Nat) (s : List ByteArray) : Prop := s.length = n ∧ ∀ i, i < n → (s.getD i z0).size = 64
theorem Auy.set {n : Nat} {s : List ByteArray} (h : Auy n s) {j : Nat} {x : ByteArray} (hx : x.size = 64) : Auy n (s.set j x) := by
 refine ⟨by rw [List.length_set]; exact h.1, fun i hi => ?_⟩
 by_cases q : j = i
 ·subst q
  rw [Ll (by rw [h.1]; exact hi)]
  exact hx
 ·rw [getD_set_ne q]
  exact h.2 i hi
def Ahi : (t : Ty) → t.D → Bool
 | .int _, _ => true
 | .bool, _ => true
 | .str, s => decide (ByteArray.size s ≤ 1073741824)
 | .sl t, xs => decide (List.length xs ≤ 1073741824) && List.all xs (Ahi t)
 | .unit, _ => true
 | .pair a b, x => Ahi a x.1 && Ahi b x.2
theorem Xr {α β : Type} {m : Option α} {f : α → Option β} {a : α} {r : Option β} (h : m = some a) (h2 : f a = r) : m.bind f = r := by
 rw [h]; exact h2
theorem Auz {α : Type} {l : List α} {z : α} {P : α → Prop} (h : ∀ i, i < l.length → P (l.getD i z)) : ∀ x ∈ l, P x := by
 intro x hx
 obtain ⟨i, hi, rfl⟩ := List.mem_iff_getElem.1 hx
 have := h i hi
 rw [List.getD_eq_getElem?_getD, List.getElem?_eq_getElem hi] at this
 exact this
theorem u4 (a b : List Int) : strOfNums (a ++ b) = strOfNums a ++ strOfNums b := by
 unfold strOfNums
 rw [List.map_append]
 apply ByteArray.ext
 simp
theorem E1 (a : List Int) : (strOfNums a).size = a.length := by
 unfold strOfNums
 show (List.toArray _).size = _
 simp
theorem Zk (v : Int) : ∀ n, (Na v n).length = n
 | 0 => rfl
 | n + 1 => by simp only [Na, List.length_append, Zk (v / 256) n, List.length_singleton]
theorem Iy (v : Int) (n : Nat) : (C1 v n).size = n := by unfold C1; rw [E1, Zk]
theorem Au0 (v : Int) (out : ByteArray) : C1 v 0 ++ out = out := by
 apply ByteArray.ext
 simp [C1, Na, strOfNums]
theorem A1w (s : ByteArray) : s ++ ByteArray.mk #[] = s := by
 apply ByteArray.ext
 simp
theorem Au1 (v : Int) (k : Nat) : C1 v (k + 1) = C1 (v / 256) k ++ strOfNums [v % 256] := by
 unfold C1
 rw [← u4]
 rfl
theorem Gk (s : ByteArray) (i : Int) : 0 ≤ Ae s i ∧ Ae s i < 256 := by
 unfold Ae
 have := (s.data.toList.getD i.toNat 0).toNat_lt
 omega
theorem Ayu : ∀ i : Nat, i < 7 → (256 : Int) ^ i ≤ 281474976710656 := by decide
theorem A1x (s : ByteArray) (i : Nat) {k : Nat} {v : Int} (hi : i + (k + 1) = s.size) (hs : i < 7) (h0 : 0 ≤ v) (h1 : v < 256 ^ i) :
  0 ≤ v * 256 + Ae s i ∧ v * 256 + Ae s i < 256 ^ (i + 1) ∧ IntKind.wrap IntKind.i64 (IntKind.wrap IntKind.i64 (v * 256) + IntKind.wrap IntKind.i64 (Ae s i)) = v * 256 + Ae s i := by
 obtain ⟨b0, b1⟩ := Gk s i
 have hp : (256 : Int) ^ (i + 1) = 256 ^ i * 256 := Int.pow_succ _ _
 have hle : (256 : Int) ^ i ≤ 281474976710656 := Ayu i hs
 refine ⟨by omega, by omega, ?_⟩
 rw [Ag (n := v * 256) (by omega) (by omega), Ag (n := Ae s i) (by omega) (by omega), Ag (by omega) (by omega)]
theorem A29 (s : ByteArray) (i : Nat) {k : Nat} {v : Int} (hi : i + (k + 1) = s.size) (hs : i < 7) (h0 : 0 ≤ v) (h1 : v < 256 ^ i) :
  0 ≤ v * 256 + Ae s i ∧ v * 256 + Ae s i < 256 ^ (i + 1) ∧ IntKind.wrap IntKind.i64 (nI (BitVec.toNat (BitVec.ofInt 64 (IntKind.wrap IntKind.i64 (v * 2 ^ min (Int.toNat 8) 64)) ||| BitVec.ofInt 64 (IntKind.wrap IntKind.i64 (Ae s i))))) = v * 256 + Ae s i := by
 obtain ⟨b0, b1⟩ := Gk s i
 have hp : (256 : Int) ^ (i + 1) = 256 ^ i * 256 := Int.pow_succ _ _
 have hle : (256 : Int) ^ i ≤ 281474976710656 := Ayu i hs
 refine ⟨by omega, by omega, ?_⟩
 have e8 : (v * 2 ^ min (Int.toNat 8) 64 : Int) = v * 256 := rfl
 rw [e8, Ag (n := v * 256) (by omega) (by omega), Ag (n := Ae s i) (by omega) (by omega)]
 obtain ⟨n, rfl⟩ : ∃ n : Nat, v = (n : Int) := ⟨v.toNat, by omega⟩
 obtain ⟨b, hb⟩ : ∃ b : Nat, Ae s i = (b : Int) := ⟨(Ae s i).toNat, by omega⟩
 rw [hb] at b0 b1 ⊢
 have e1 : BitVec.ofInt 64 ((n : Int) * 256) = BitVec.ofNat 64 (n * 256) := by
  rw [show ((n : Int) * 256) = ((n * 256 : Nat) : Int) by omega]; exact BitVec.ofInt_natCast _ _
 have e2 : BitVec.ofInt 64 (b : Int) = BitVec.ofNat 64 b := BitVec.ofInt_natCast _ _
 rw [e1, e2, BitVec.toNat_or, BitVec.toNat_ofNat, BitVec.toNat_ofNat, Nat.mod_eq_of_lt (by omega), Nat.mod_eq_of_lt (by omega)]
 have e3 : n * 256 ||| b = n * 256 + b := by
  have := Nat.shiftLeft_add_eq_or_of_lt (i := 8) (b := b) (by omega) n
  rw [Nat.shiftLeft_eq] at this
  exact this.symm
 rw [e3]
 exact Ag (by simp only [nI]; omega) (by simp only [nI]; omega)
theorem l7 {σ ρ : Type} (n : Nat) (Inv : Nat → σ → Prop) (step : Nat → σ → σ) {g : Nat → Nat → σ → Option ρ} {ok : σ → ρ}
  (hs : ∀ m i s, i < n → Inv i s → g (m + 1) i s = g m (i + 1) (step i s)) (he : ∀ m s, Inv n s → g (m + 1) n s = some (ok s))
  (hI : ∀ i s, i < n → Inv i s → Inv (i + 1) (step i s)) : ∀ k m i s, i + k = n → k < m → Inv i s → g m i s = some (ok (iter step k i s))
 | 0, m + 1, i, s, hi, _, h => by
  obtain rfl : i = n := by omega
  exact he m s h
 | k + 1, m + 1, i, s, hi, hm, h => by
  rw [hs m i s (by omega) h]
  exact l7 n Inv step hs he hI k m (i + 1) _ (by omega) (by omega) (hI i s (by omega) h)
theorem Au2 {σ : Type} (Inv : σ → Prop) (f : Nat → σ → σ) (hf : ∀ i s, Inv s → Inv (f i s)) : ∀ k i s, Inv s → Inv (iter f k i s)
 | 0, _, _, h => h
 | k + 1, i, s, h => Au2 Inv f hf k (i + 1) _ (hf i s h)
theorem wid (w : Int) : (bif decide (w ≥ 1) then some ((decide (w ≤ 8), ()), ()) else some ((false, ()), ())) = (some ((Eo w 1 8, ()), ()) : Option ((Bool × Unit) × Unit)) := by
 unfold Eo
 by_cases h : 1 ≤ w
 ·rw [decide_eq_true (show w ≥ 1 from h)]; rfl
 ·rw [decide_eq_false (show ¬ w ≥ 1 from h)]; rfl
theorem A3z (k : Int) : IntKind.wrap IntKind.u64 k = k % 18446744073709551616 := by
 simp [IntKind.wrap, IntKind.bits, IntKind.signed]
theorem A5b (k : Int) : IntKind.i64.wrap k = if k % 18446744073709551616 ≥ 9223372036854775808 then k % 18446744073709551616 - 18446744073709551616 else k % 18446744073709551616 := by
 simp [IntKind.wrap, IntKind.bits, IntKind.signed]
def U64 (h : Int) : Prop := 0 ≤ h ∧ h < 18446744073709551616
theorem Ayv (s : ByteArray) (k i : Nat) {h : Int} (hh : U64 h) : U64 (Afc s k i h) :=
 Au2 U64 _ (fun i s _ => by unfold Zi; rw [A3z]; exact ⟨Int.emod_nonneg _ (by decide), Int.emod_lt_of_pos _ (by decide)⟩) k i h hh
theorem Al5 : ∀ (n : Nat) (v c : Int), Na (v + 256 ^ n * c) n = Na v n
 | 0, _, _ => rfl
 | n + 1, v, c => by
  have e : v + 256 ^ (n + 1) * c = v + 256 * (256 ^ n * c) := by rw [Int.pow_succ, Int.mul_comm (256 ^ n) 256, Int.mul_assoc]
  simp only [Na]
  rw [e]
  have e1 : (v + 256 * (256 ^ n * c)) / 256 = v / 256 + 256 ^ n * c := by omega
  have e2 : (v + 256 * (256 ^ n * c)) % 256 = v % 256 := by omega
  rw [e1, e2, Al5 n]
theorem Aq1 (n : Nat) : ∀ (w : Nat) (v : Int), (Na v (n + w)).drop n = Na v w
 | 0, v => by rw [List.drop_eq_nil_of_le (by rw [Zk]; omega)]; rfl
 | w + 1, v => by
  show (Na (v / 256) (n + w) ++ [v % 256]).drop n = _
  rw [List.drop_append_of_le_length (by rw [Zk]; omega), Aq1 n w]
  rfl
theorem A1y (l : List Int) (a : Nat) : Ah (strOfNums l) (a : Int) (nI (strOfNums l).size) = strOfNums (l.drop a) := by
 unfold Ah
 rw [E1]
 apply ByteArray.ext
 simp [strOfNums, nI, List.map_drop]
 exact List.take_of_length_le (by simp)
theorem A3b {h w : Int} (hh : U64 h) (h1 : 1 ≤ w) (h8 : w ≤ 8) : Ah (C1 (IntKind.wrap IntKind.i64 h) (Int.toNat 8)) (8 - w) (nI (ByteArray.size (C1 (IntKind.wrap IntKind.i64 h) (Int.toNat 8)))) = C1 h w.toNat := by
 obtain ⟨n, rfl⟩ : ∃ n : Nat, w = (n : Int) := ⟨w.toNat, by omega⟩
 have e8 : Int.toNat 8 = (8 - n) + n := by omega
 have e : (8 - (n : Int)) = ((8 - n : Nat) : Int) := by omega
 rw [e]
 unfold C1
 have hd : Na (IntKind.wrap IntKind.i64 h) (Int.toNat 8) = Na h (Int.toNat 8) := by
  by_cases q : h < 9223372036854775808
  ·rw [Ag (by have := hh.1; omega) q]
  ·have : IntKind.wrap IntKind.i64 h = h + 256 ^ 8 * (-1) := by
    have h6 : (256 : Int) ^ 8 = 18446744073709551616 := by decide
    have := hh.2
    rw [h6]
    rw [A5b]
    split <;> omega
   rw [this]
   exact Al5 8 h (-1)
 rw [hd, A1y, e8, Aq1]
 rfl
theorem Ve {s : ByteArray} {w : Int} (h : Eo w 1 8 = true) : (Acv s w).size = w.toNat := by
 unfold Acv; rw [h]; exact Iy _ _
theorem A5t : ∀ n : Nat, n ≤ 64 → Aas (ByteArray.mk #[0]) (n : Int) = some (strOfNums (List.replicate n 0)) := by decide +kernel
theorem R1 {p : Pg} {w : Int} (h : Jh p w = true) : Eo w 1 8 = true ∧ 1 ≤ w ∧ w ≤ 8 ∧ (p.2.2.2.1.size : Int) ≤ 56 - w := by
 obtain ⟨h1, h2⟩ := Cj h
 obtain ⟨_, h2⟩ := Cj h2
 obtain ⟨_, h2⟩ := Cj h2
 obtain ⟨_, h2⟩ := Cj h2
 exact ⟨h1, of_decide_eq_true (Cj h1).1, of_decide_eq_true (Cj h1).2, of_decide_eq_true (Cj h2).1⟩
theorem G4 {v lo hi : Int} (h : Eo v lo hi = true) : lo ≤ v ∧ v ≤ hi := ⟨of_decide_eq_true (Cj h).1, of_decide_eq_true (Cj h).2⟩
theorem Zl {p : Pg} {w : Int} (h : Jh p w = true) : (1 ≤ p.1 ∧ p.1 ≤ 4) ∧ (1 ≤ p.2.1 ∧ p.2.1 ≤ 60000) ∧ (1 ≤ p.2.2.1 ∧ p.2.2.1 ≤ 1000000000) := by
 obtain ⟨_, h2⟩ := Cj h
 obtain ⟨h3, h2⟩ := Cj h2
 obtain ⟨h4, h2⟩ := Cj h2
 obtain ⟨h5, h2⟩ := Cj h2
 exact ⟨G4 h3, G4 h4, G4 h5⟩
theorem Al6 (x lo hi : Int) {ρ : Type} (f t : ρ) : (bif decide (x < lo) then f else bif decide (x > hi) then f else t) = bif Eo x lo hi then t else f := by
 unfold Eo
 by_cases h1 : x < lo
 ·rw [decide_eq_true h1, decide_eq_false (show ¬ lo ≤ x by omega)]; rfl
 ·rw [decide_eq_false h1, decide_eq_true (show lo ≤ x by omega)]
  by_cases h2 : x > hi
  ·rw [decide_eq_true h2, decide_eq_false (show ¬ x ≤ hi by omega)]; rfl
  ·rw [decide_eq_false h2, decide_eq_true (show x ≤ hi by omega)]; rfl
theorem Al7 {α β : Type} (f : α → List β) (z : α) (xs : List α) : ∀ k i r, i + k = xs.length → iter (fun i r => r ++ f (xs.getD i z)) k i r = r ++ ((xs.drop i).map f).flatten
 | 0, i, r, h => by
  rw [List.drop_eq_nil_of_le (by omega)]
  simp [iter]
 | k + 1, i, r, h => by
  rw [Iw xs i z (by omega)]
  simp only [iter, List.map_cons, List.flatten_cons]
  rw [Al7 f z xs k (i + 1) _ (by omega), List.append_assoc]
theorem M4 (a b : ByteArray) : Aa (a ++ b) = Aa a ++ Aa b := by
 unfold Aa
 simp
theorem Cx (s : ByteArray) : (Aa s).length = s.size := by
 unfold Aa
 rw [List.length_map]
 rfl
theorem Mi (l : List Int) (h : Er l = true) : Aa (strOfNums l) = l := by
 unfold Aa strOfNums
 show (List.map _ (List.map _ l)) = l
 rw [List.map_map]
 conv => rhs; rw [← List.map_id l]
 refine List.map_congr_left fun x hx => ?_
 have := List.all_eq_true.1 h x hx
 obtain ⟨h1, h2⟩ := Cj this
 have h1 := of_decide_eq_true h1
 have h2 := of_decide_eq_true h2
 show (((UInt8.ofNat x.toNat).toNat : Nat) : Int) = x
 rw [UInt8.toNat_ofNat']
 rw [Nat.mod_eq_of_lt (by omega)]
 omega
theorem Rm (s : ByteArray) : Er (Aa s) = true := by
 refine List.all_eq_true.2 fun x hx => ?_
 obtain ⟨b, _, rfl⟩ := List.mem_map.1 hx
 have := b.toNat_lt
 show (decide (0 ≤ (b.toNat : Int)) && decide ((b.toNat : Int) < 256)) = true
 rw [decide_eq_true (by omega), decide_eq_true (by omega)]
 rfl
theorem G3 (a b : List Int) : Er (a ++ b) = (Er a && Er b) := List.all_append
theorem A3c (n : Nat) (h : n < 256) : C1 (nI n) 1 = strOfNums [nI n] := by
 unfold C1
 simp only [Na, List.nil_append]
 rw [show nI n % 256 = nI n by simp only [nI]; omega]
theorem Akn (n : Nat) (h : n < 256) : Er [nI n] = true := by
 show ((decide (0 ≤ nI n) && decide (nI n < 256)) && true) = true
 rw [decide_eq_true (by simp only [nI]; omega), decide_eq_true (by simp only [nI]; omega)]
 rfl
theorem Au3 (n : Nat) (h : n < 256) : Aa (C1 (nI n) 1) = [nI n] := by
 rw [A3c n h, Mi _ (Akn n h)]
theorem A30 (n : Nat) (h : n < 256) : IntKind.wrap IntKind.u8 (nI n) = nI n := by
 show nI n % 256 = nI n
 simp only [nI]; omega
theorem l8 {c : Chg} (h : Nk c = true) : 1 ≤ c.1.size ∧ c.1.size ≤ 20 ∧ c.2.1.size ≤ 100 := by
 obtain ⟨h1, h2⟩ := Cj h
 obtain ⟨h2, _⟩ := Cj h2
 have := G4 h1
 have := of_decide_eq_true h2
 omega
theorem Tn {c : Chg} (h : Nk c = true) : Er (Re c) = true ∧ (Re c).length ≤ 200 := by
 obtain ⟨k1, k2, k3⟩ := l8 h
 unfold Re
 have a1 := Akn c.1.size (by omega)
 have a2 := Akn c.2.1.size (by omega)
 have b1 : Er [1, nI c.1.size] = true := by
  rw [show [1, nI c.1.size] = [1] ++ [nI c.1.size] from rfl, G3, a1]; rfl
 have b0 : Er [0, nI c.1.size] = true := by
  rw [show [0, nI c.1.size] = [0] ++ [nI c.1.size] from rfl, G3, a1]; rfl
 cases c.2.2.1
 ·simp only [cond_false, G3, b0, a2, Rm, List.length_append, Cx, List.length_cons, List.length_nil]
  exact ⟨rfl, by omega⟩
 ·simp only [cond_true, G3, b1, Rm, List.length_append, Cx, List.length_cons, List.length_nil]
  exact ⟨rfl, by omega⟩
theorem Pw {b : List Chg} (h : Bg b = true) : b.length ≤ 20 ∧ ∀ i, i < b.length → Nk (b.getD i zC) = true := by
 obtain ⟨h1, h2⟩ := Cj h
 refine ⟨by have := (G4 h1).2; omega, fun i hi => ?_⟩
 exact List.all_eq_true.1 h2 i (List.mem_range'_1.2 ⟨by omega, by omega⟩)
def Al8 (i : Nat) (r : List Int) : Prop := r.length ≤ 200 * i ∧ Er r = true
theorem Al8.step {i : Nat} {r : List Int} {c : Chg} (h : Al8 i r) (hc : Nk c = true) : Al8 (i + 1) (r ++ Re c) := by
 obtain ⟨q1, q2⟩ := Tn hc
 exact ⟨by rw [List.length_append]; have := h.1; omega, by rw [G3, h.2, q1]; rfl⟩
theorem Au4 {b : List Chg} (h : ∀ i, i < b.length → Nk (b.getD i zC) = true) : ∀ k i r, i + k = b.length → Al8 i r → Al8 b.length (iter (fun i r => r ++ Re (b.getD i zC)) k i r)
 | 0, i, r, e, hr => by
  obtain rfl : i = b.length := by omega
  exact hr
 | k + 1, i, r, e, hr => Au4 h k (i + 1) _ (by omega) (hr.step (h i (by omega)))
theorem Uq {a b : ByteArray} (h : Aa a = Aa b) : a = b := by
 apply ByteArray.ext
 apply Array.ext'
 unfold Aa at h
 exact (List.map_inj_right (fun x y e => UInt8.toNat_inj.1 (by omega))).1 h
theorem J6 (s : ByteArray) (a b : Nat) : Aa (Ah s a b) = ((Aa s).drop a).take (b - a) := by
 unfold Aa Ah
 simp [List.map_drop, List.map_take]
theorem Ayw {a b : ByteArray} (h : (a.toList == b.toList) = true) : a = b := by
 have h := eq_of_beq h
 rw [ByteArray.toList_eq, ByteArray.toList_eq] at h
 apply ByteArray.ext
 exact Array.ext' h
theorem A4p {s : ByteArray} (h : Aa s = []) : s = ByteArray.mk #[] := Uq h
theorem Ac1 {s : ByteArray} (h : 0 < s.size) : Aa s = Ae s 0 :: Aa (Ah s 1 (nI s.size)) := by
 have hc := J6 s 1 s.size
 have e : Ah s 1 (nI s.size) = Ah s ((1 : Nat) : Int) ((s.size : Nat) : Int) := rfl
 rw [e, hc]
 have hl := Cx s
 cases hb : Aa s with
 | nil => rw [hb] at hl; simp at hl; omega
 | cons x r =>
  have hx : Ae s 0 = x := by
   unfold Ae
   unfold Aa at hb
   cases hd : s.data.toList with
   | nil => rw [hd] at hb; simp at hb
   | cons y q => rw [hd] at hb; simp at hb; simp [hb.1]
  rw [hx, List.drop_one, List.tail_cons, List.take_of_length_le]
  rw [hb] at hl
  simp at hl
  omega
theorem Ahj {s : ByteArray} (h : (A0 s).2.2 = true) : Aa s = nI (A0 s).1.size :: (Aa (A0 s).1 ++ Aa (A0 s).2.1) := by
 unfold A0 at h ⊢
 split at h
 ·cases h
 ·rename_i hc
  rw [if_neg hc]
  obtain ⟨b0, b1⟩ := Gk s 0
  have h0 : 0 < s.size := by omega
  rw [Ac1 h0]
  obtain ⟨n, hn⟩ : ∃ n : Nat, Ae s 0 = (n : Int) := ⟨(Ae s 0).toNat, by omega⟩
  have e1 : (Ah s 1 (1 + Ae s 0)).size = n := by rw [Fp (by omega) (by omega) (by omega)]; omega
  simp only [e1]
  rw [hn]
  congr 1
  have q1 : Ah s 1 (nI s.size) = Ah s ((1 : Nat) : Int) ((s.size : Nat) : Int) := rfl
  have q2 : Ah s 1 (1 + (n : Int)) = Ah s ((1 : Nat) : Int) ((1 + n : Nat) : Int) := by rw [show (1 + (n : Int)) = ((1 + n : Nat) : Int) by omega] <;> rfl
  have q3 : Ah s (1 + (n : Int)) (nI s.size) = Ah s ((1 + n : Nat) : Int) ((s.size : Nat) : Int) := by rw [show (1 + (n : Int)) = ((1 + n : Nat) : Int) by omega] <;> rfl
  rw [q1, q2, q3, J6, J6, J6]
  have hl := Cx s
  rw [List.take_of_length_le (by rw [List.length_drop]; omega), show 1 + n - 1 = n by omega, List.take_of_length_le (l := List.drop (1 + n) (Aa s)) (by rw [List.length_drop]; omega), ← List.drop_drop]
  exact (List.take_append_drop n _).symm
theorem R2 {s k t : ByteArray} (hk : k.size < 256) (h : Aa s = nI k.size :: (Aa k ++ Aa t)) : A0 s = (k, t, true) := by
 have hl := Cx s
 have hlk := Cx k
 have hlt := Cx t
 rw [h, List.length_cons, List.length_append, hlk, hlt] at hl
 have h0 : 0 < s.size := by omega
 have hh := Ac1 h0
 rw [h] at hh
 have hb : Ae s 0 = nI k.size := (List.cons.inj hh).1.symm
 have ht := (List.cons.inj hh).2
 unfold A0
 rw [hb, if_neg (by simp only [nI]; omega)]
 have q1 : Ah s 1 (1 + nI k.size) = Ah s ((1 : Nat) : Int) ((1 + k.size : Nat) : Int) := by rw [show (1 + nI k.size) = ((1 + k.size : Nat) : Int) by simp only [nI]; omega] <;> rfl
 have q2 : Ah s (1 + nI k.size) (nI s.size) = Ah s ((1 + k.size : Nat) : Int) ((s.size : Nat) : Int) := by rw [show (1 + nI k.size) = ((1 + k.size : Nat) : Int) by simp only [nI]; omega] <;> rfl
 have hd : (Aa s).drop 1 = Aa k ++ Aa t := by rw [h]; rfl
 have e1 : Ah s 1 (1 + nI k.size) = k := by
  apply Uq
  rw [q1, J6, hd, show 1 + k.size - 1 = k.size by omega, List.take_append_of_le_length (by omega), List.take_of_length_le (by omega)]
 have e2 : Ah s (1 + nI k.size) (nI s.size) = t := by
  apply Uq
  rw [q2, J6, ← List.drop_drop, hd, List.drop_append_of_le_length (by omega), List.drop_of_length_le (by omega), List.nil_append, List.take_of_length_le (by omega)]
 rw [e1, e2]
theorem Axi {s : ByteArray} (h0 : 0 < s.size) {c : Chg} {t : ByteArray} (h : Ahh true s = some (c, t)) : Aa s = Re c ++ Aa t := by
 unfold Ahh at h
 rw [Ac1 h0]
 obtain ⟨b0, b1⟩ := Gk s 0
 by_cases g1 : Ae s 0 > 1
 ·rw [decide_eq_true g1] at h; cases h
 ·rw [decide_eq_false g1] at h
  have hp := @Ahj (Ah s 1 (nI s.size))
  generalize A0 (Ah s 1 (nI s.size)) = p at *
  obtain ⟨k, u, o⟩ := p
  cases o
  ·cases h
  ·rw [hp rfl]
   by_cases g2 : Ae s 0 = 1
   ·rw [g2] at h ⊢
    cases h
    simp [Re]
   ·have g3 : Ae s 0 = 0 := by omega
    rw [g3] at h ⊢
    have hq := @Ahj u
    have h : (bif !(A0 u).2.2 then none else some ((k, (A0 u).1, false, ()), (A0 u).2.1)) = some (c, t) := h
    generalize A0 u = q at *
    obtain ⟨v, w, o⟩ := q
    cases o
    ·cases h
    ·cases h
     have := hq rfl
     simp only at this ⊢
     rw [this]
     simp [Re]
theorem Ao1 {s : ByteArray} {c : Chg} {t : ByteArray} (hc : Nk c = true) (h : Aa s = Re c ++ Aa t) (b : Bool) : 0 < s.size ∧ Ahh b s = some (c, t) := by
 obtain ⟨k1, k2, k3⟩ := l8 hc
 obtain ⟨k, v, g, u⟩ := c
 have hl := Cx s
 have h0 : 0 < s.size := by
  rw [h, List.length_append] at hl
  unfold Re at hl
  cases g <;> simp at hl <;> omega
 refine ⟨h0, ?_⟩
 have hh := Ac1 h0
 rw [h] at hh
 unfold Ahh
 cases g
 ·have e : Re (k, v, false, u) ++ Aa t = 0 :: (nI k.size :: (Aa k ++ (nI v.size :: (Aa v ++ Aa t)))) := by simp [Re]
  rw [e] at hh
  have hb : Ae s 0 = 0 := (List.cons.inj hh).1.symm
  have ht := (List.cons.inj hh).2.symm
  have a2 := Akn v.size (by have : v.size ≤ 100 := k3; omega)
  have ev : Aa (strOfNums (nI v.size :: (Aa v ++ Aa t))) = nI v.size :: (Aa v ++ Aa t) := Mi _ (by
   rw [show nI v.size :: (Aa v ++ Aa t) = [nI v.size] ++ (Aa v ++ Aa t) from rfl, G3, G3, a2, Rm, Rm]; rfl)
  have p1 := R2 (s := Ah s 1 (nI s.size)) (k := k) (t := strOfNums (nI v.size :: (Aa v ++ Aa t))) (by have : k.size ≤ 20 := k2; omega) (by rw [ev]; exact ht)
  have p2 := R2 (s := strOfNums (nI v.size :: (Aa v ++ Aa t))) (k := v) (t := t) (by have : v.size ≤ 100 := k3; omega) ev
  rw [p1, hb]
  show (bif b && false then none else (bif !(A0 (strOfNums (nI v.size :: (Aa v ++ Aa t)))).2.2 then none else some ((k, (A0 (strOfNums (nI v.size :: (Aa v ++ Aa t)))).1, false, ()), (A0 (strOfNums (nI v.size :: (Aa v ++ Aa t)))).2.1))) = _
  rw [p2, Bool.and_false]
  rfl
 ·have hv : v = ByteArray.mk #[] := by
   obtain ⟨_, h2⟩ := Cj hc
   obtain ⟨_, h2⟩ := Cj h2
   have h2 : (!(true && !(v.toList == []))) = true := h2
   have h3 : (v.toList == []) = true := by cases hq : (v.toList == []) <;> rw [hq] at h2 <;> first | rfl | cases h2
   have h3 := eq_of_beq h3
   rw [ByteArray.toList_eq] at h3
   apply ByteArray.ext
   exact Array.ext' h3
  subst hv
  have e : Re (k, ByteArray.mk #[], true, u) ++ Aa t = 1 :: (nI k.size :: (Aa k ++ Aa t)) := by simp [Re]
  rw [e] at hh
  have hb : Ae s 0 = 1 := (List.cons.inj hh).1.symm
  have ht := (List.cons.inj hh).2.symm
  have p1 := R2 (s := Ah s 1 (nI s.size)) (k := k) (t := t) (by have : k.size ≤ 20 := k2; omega) ht
  rw [p1, hb]
  cases b <;> rfl
theorem Ahk : ∀ (f : Nat) (r : List Chg) (s : ByteArray) {b : List Chg} {t : ByteArray}, Mf true f r s = some (b, t) → ∃ cs, b = r ++ cs ∧ Aa s = Gp cs ++ Aa t
 | 0, r, s, b, t, h => by
  cases h
  exact ⟨[], by simp, by simp [Gp]⟩
 | f + 1, r, s, b, t, h => by
  unfold Mf at h
  by_cases q : (decide (s.size > 0) && decide (r.length ≤ 20)) = true
  ·rw [q] at h
   have h0 := of_decide_eq_true (Cj q).1
   cases hs : Ahh true s with
   | none => rw [hs] at h; cases h
   | some ct =>
    obtain ⟨c, u⟩ := ct
    rw [hs] at h
    obtain ⟨cs, e1, e2⟩ := Ahk f (r ++ [c]) u h
    refine ⟨c :: cs, by rw [e1, List.append_assoc]; rfl, ?_⟩
    rw [Axi h0 hs, e2]
    simp [Gp]
  ·rw [Bool.eq_false_iff.2 q] at h
   cases h
   exact ⟨[], by simp, by simp [Gp]⟩
theorem R3 (strict : Bool) : ∀ (cs : List Chg) (f : Nat) (r : List Chg) (s : ByteArray), cs.length < f → r.length + cs.length ≤ 20 → (∀ c ∈ cs, Nk c = true) → Aa s = Gp cs → Mf strict f r s = some (r ++ cs, ByteArray.mk #[])
 | [], f + 1, r, s, _, _, _, h => by
  have hz := A4p (s := s) h
  subst hz
  rw [List.append_nil]
  rfl
 | c :: cs, f + 1, r, s, hf, hr, hok, h => by
  have hb : Aa (strOfNums (Gp cs)) = Gp cs := Mi _ (List.all_eq_true.2 fun x hx => by
   obtain ⟨l, hl, hx⟩ := List.mem_flatten.1 hx
   obtain ⟨d, hd, rfl⟩ := List.mem_map.1 hl
   exact List.all_eq_true.1 (Tn (hok d (List.mem_cons_of_mem _ hd))).1 x hx)
  obtain ⟨h0, hs⟩ := Ao1 (s := s) (c := c) (t := strOfNums (Gp cs)) (hok c (by simp)) (by rw [hb, h]; rfl) strict
  unfold Mf
  rw [hs, decide_eq_true (show s.size > 0 from h0), decide_eq_true (show r.length ≤ 20 by rw [List.length_cons] at hr; omega)]
  have ih := R3 strict cs f (r ++ [c]) (strOfNums (Gp cs)) (by rw [List.length_cons] at hf; omega) (by rw [List.length_append, List.length_singleton]; rw [List.length_cons] at hr; omega) (fun d hd => hok d (List.mem_cons_of_mem _ hd)) hb
  rw [List.append_assoc] at ih
  exact ih
theorem Axj (s : ByteArray) : strOfNums (Aa s) = s := Uq (Mi _ (Rm s))
theorem Az4 {b : List Chg} (h : ∀ c ∈ b, Nk c = true) : Er (Gp b) = true := List.all_eq_true.2 fun x hx => by
 obtain ⟨l, hl, hx⟩ := List.mem_flatten.1 hx
 obtain ⟨d, hd, rfl⟩ := List.mem_map.1 hl
 exact List.all_eq_true.1 (Tn (h d hd)).1 x hx
theorem Afe {b : List Chg} (h : Bg b = true) : 1 ≤ b.length ∧ b.length ≤ 20 ∧ ∀ c ∈ b, Nk c = true := by
 obtain ⟨h1, h2⟩ := Pw h
 refine ⟨by have := (G4 (Cj h).1).1; omega, h1, Auz (z := zC) (P := fun c => Nk c = true) h2⟩
theorem Ayx {s : ByteArray} {b : List Chg} (hv : Bg b = true) (hs : Aa s = Gp b) : Kb s = (b, true) ∧ Al1 s = (b, true) := by
 obtain ⟨h1, h2, h3⟩ := Afe hv
 have p1 := R3 true b 22 [] s (by omega) (by simpa using h2) h3 hs
 have p2 := R3 false b 22 [] s (by omega) (by simpa using h2) h3 hs
 have hf : F4 b = s := by
  unfold F4
  rw [hv, ← hs, cond_true, Axj]
 have hz : (s.size == 0) = false := by
  refine beq_eq_false_iff_ne.2 fun q => ?_
  cases b with
  | nil => simp at h1
  | cons c r =>
   have := Cx s
   rw [q, hs] at this
   unfold Gp Re at this
   cases hg : c.2.2.1 <;> simp [hg] at this
 unfold Kb Al1
 rw [p1, p2]
 simp only [List.nil_append]
 rw [hv, hf, hz, beq_self_eq_true]
 exact ⟨rfl, rfl⟩
theorem Ayy {s : ByteArray} (h : ∀ b, Bg b = true → Aa s ≠ Gp b) : Kb s = ([], false) ∧ Al1 s = ([], false) := by
 constructor
 ·unfold Kb
  cases hp : Mf true 22 [] s with
  | none => rfl
  | some bt =>
   obtain ⟨b, t⟩ := bt
   simp only
   obtain ⟨cs, e1, e2⟩ := Ahk 22 [] s hp
   rw [List.nil_append] at e1
   subst e1
   by_cases ht : t.size > 0
   ·rw [decide_eq_true ht]; rfl
   ·cases hv : Bg b with
    | false => rw [Bool.not_false, Bool.or_true]; rfl
    | true =>
     have h0 : Aa t = [] := List.length_eq_zero_iff.1 (by rw [Cx]; omega)
     rw [h0, List.append_nil] at e2
     exact absurd e2 (h b hv)
 ·unfold Al1
  cases hp : Mf false 22 [] s with
  | none => rfl
  | some bt =>
   obtain ⟨b, t⟩ := bt
   simp only
   by_cases hz : s.size = 0
   ·rw [hz]; rfl
   ·rw [beq_eq_false_iff_ne.2 hz, Bool.false_or]
    cases he : ((F4 b).toList == s.toList) with
    | false => rfl
    | true =>
     have e := Ayw he
     cases hv : Bg b with
     | false =>
      unfold F4 at e
      rw [hv] at e
      subst e
      exact absurd rfl hz
     | true =>
      unfold F4 at e
      rw [hv] at e
      have e : strOfNums (Gp b) = s := e
      have := congrArg Aa e
      rw [Mi _ (Az4 (Afe hv).2.2)] at this
      exact absurd this.symm (h b hv)
theorem Az5 (s : ByteArray) : Al1 s = Kb s := by
 by_cases h : ∃ b, Bg b = true ∧ Aa s = Gp b
 ·obtain ⟨b, h1, h2⟩ := h
  rw [(Ayx h1 h2).1, (Ayx h1 h2).2]
 ·have h' : ∀ b, Bg b = true → Aa s ≠ Gp b := fun b h1 h2 => h ⟨b, h1, h2⟩
  rw [(Ayy h').1, (Ayy h').2]
def Aie (v b : Int) : Int := v * 256 + b
theorem W8 (s : ByteArray) (i : Nat) : Ae s i = (Aa s).getD i 0 := by
 unfold Ae Aa
 simp only [Int.toNat_natCast, List.getD_eq_getElem?_getD, List.getElem?_map]
 cases s.data.toList[i]? <;> rfl
theorem Au5 (s : ByteArray) : ∀ k i v, i + k = s.size → Auv s k i v = ((Aa s).drop i).foldl Aie v
 | 0, i, v, h => by rw [List.drop_of_length_le (by rw [Cx]; omega)]; rfl
 | k + 1, i, v, h => by
  rw [Iw (Aa s) i 0 (by rw [Cx]; omega), List.foldl_cons, ← W8]
  exact Au5 s k (i + 1) _ (by omega)
theorem Ayz (s : ByteArray) : Zh s = (Aa s).foldl Aie 0 := by
 unfold Zh
 rw [Au5 s s.size 0 0 (by omega), List.drop_zero]
theorem Au6 (v : Int) : ∀ (n : Nat) (l : List Int), l.length = n → Er l = true → Na (l.foldl Aie v) n = l
 | 0, l, h, _ => by rw [List.length_eq_zero_iff.1 h]; rfl
 | n + 1, l, h, ha => by
  obtain ⟨q, b, rfl⟩ : ∃ q b, l = q ++ [b] := ⟨l.dropLast, l.getLast (by intro e; subst e; simp at h), (List.dropLast_concat_getLast _).symm⟩
  rw [G3] at ha
  obtain ⟨h1, h2⟩ := Cj ha
  have hb : 0 ≤ b ∧ b < 256 := by
   have := List.all_eq_true.1 h2 b (by simp)
   exact ⟨of_decide_eq_true (Cj this).1, of_decide_eq_true (Cj this).2⟩
  rw [List.foldl_append]
  simp only [List.foldl_cons, List.foldl_nil, Na]
  have e1 : Aie (q.foldl Aie v) b / 256 = q.foldl Aie v := by unfold Aie; omega
  have e2 : Aie (q.foldl Aie v) b % 256 = b := by unfold Aie; omega
  rw [e1, e2, Au6 v n q (by simpa using h) h1]
theorem Au7 : ∀ (n : Nat) (v : Int), 0 ≤ v → v < 256 ^ n → (Na v n).foldl Aie 0 = v
 | 0, v, h0, h1 => by
  have : v < 1 := h1
  show (0 : Int) = v
  omega
 | n + 1, v, h0, h1 => by
  have hp : (256 : Int) ^ (n + 1) = 256 ^ n * 256 := Int.pow_succ _ _
  simp only [Na, List.foldl_append, List.foldl_cons, List.foldl_nil]
  rw [Au7 n (v / 256) (by omega) (by omega)]
  unfold Aie
  omega
theorem Au8 : ∀ (n : Nat) (v : Int), Er (Na v n) = true
 | 0, _ => rfl
 | n + 1, v => by
  simp only [Na, G3, Au8 n]
  show (true && ((decide (0 ≤ v % 256) && decide (v % 256 < 256)) && true)) = true
  rw [decide_eq_true (by omega), decide_eq_true (by omega)]
  rfl
theorem La (v : Int) (n : Nat) : Aa (C1 v n) = Na v n := Mi _ (Au8 n v)
theorem Au9 {v : Int} {n : Nat} (h0 : 0 ≤ v) (h1 : v < 256 ^ n) : Zh (C1 v n) = v := by rw [Ayz, La, Au7 n v h0 h1]
theorem A1z (s : ByteArray) : C1 (Zh s) s.size = s := by
 apply Uq
 rw [La, Ayz]
 exact Au6 0 s.size _ (Cx s) (Rm s)
theorem Az6 (n : Nat) : Er (List.replicate n 0) = true := List.all_eq_true.2 fun x hx => by
 rw [List.eq_of_mem_replicate hx]; rfl
theorem Aau (p : Pg) (w : Int) : Aa (Gj p w) = Na p.1 1 ++ (Na p.2.1 2 ++ (Na p.2.2.1 4 ++ (Na p.2.2.2.1.size 1 ++ (Aa p.2.2.2.1 ++ List.replicate (56 - w - p.2.2.2.1.size).toNat 0)))) := by
 unfold Gj
 rw [M4, M4, M4, M4, M4, La, La, La, La, Mi _ (Az6 _)]
 simp only [List.append_assoc]
theorem Aq2 {p : Pg} {w : Int} (h : Jh p w = true) : (Gj p w).size = (64 - w).toNat := by
 obtain ⟨hw, k1, k2, kp⟩ := R1 h
 rw [← Cx, Aau]
 simp only [List.length_append, Zk, Cx, List.length_replicate]
 omega
theorem Axk {p : Pg} {w : Int} (h : Jh p w = true) : (D1 p w).size = 64 ∧ Ah (D1 p w) w (nI (D1 p w).size) = Gj p w := by
 obtain ⟨hw, k1, k2, kp⟩ := R1 h
 have e : D1 p w = Acv (Gj p w) w ++ Gj p w := by unfold D1; rw [h]; rfl
 have hs : (D1 p w).size = 64 := by rw [e, ByteArray.size_append, Ve hw, Aq2 h]; omega
 refine ⟨hs, ?_⟩
 obtain ⟨n, rfl⟩ : ∃ n : Nat, w = (n : Int) := ⟨w.toNat, by omega⟩
 apply Uq
 have q : Ah (D1 p n) n (nI (D1 p n).size) = Ah (D1 p n) (n : Nat) ((64 : Nat) : Int) := by rw [hs] <;> rfl
 rw [q, J6, e, M4, List.drop_append_of_le_length (by rw [Cx, Ve hw]; omega), List.drop_of_length_le (by rw [Cx, Ve hw]; omega), List.nil_append, List.take_of_length_le (by rw [Cx, Aq2 h]; omega)]
theorem A10 {p : Pg} {w : Int} (h : Jh p w = true) : Axg (Gj p w) = p := by
 obtain ⟨hw, k1, k2, kp⟩ := R1 h
 obtain ⟨r1, r2, r3⟩ := Zl h
 have hb := Aau p w
 have d1 : ∀ v : Int, Na v 1 = [v % 256] := fun v => rfl
 have d2 : ∀ v : Int, Na v 2 = [v / 256 % 256, v % 256] := fun v => rfl
 have d4 : ∀ v : Int, Na v 4 = [v / 256 / 256 / 256 % 256, v / 256 / 256 % 256, v / 256 % 256, v % 256] := fun v => rfl
 have b7 : Ae (Gj p w) 7 = p.2.2.2.1.size := by
  have := W8 (Gj p w) 7
  rw [hb, d1, d2, d4, d1] at this
  refine this.trans ?_
  show (p.2.2.2.1.size : Int) % 256 = _
  omega
 have b0 : Ae (Gj p w) 0 = p.1 := by
  have := W8 (Gj p w) 0
  rw [hb, d1] at this
  refine this.trans ?_
  show p.1 % 256 = _
  omega
 have c1 : Ah (Gj p w) 1 3 = C1 p.2.1 2 := by
  apply Uq
  have := J6 (Gj p w) 1 3
  rw [hb, d1, d2, d4, d1] at this
  exact this.trans (by rw [La, d2]; rfl)
 have c3 : Ah (Gj p w) 3 7 = C1 p.2.2.1 4 := by
  apply Uq
  have := J6 (Gj p w) 3 7
  rw [hb, d1, d2, d4, d1] at this
  exact this.trans (by rw [La, d4]; rfl)
 have c8 : Ah (Gj p w) 8 (8 + (p.2.2.2.1.size : Int)) = p.2.2.2.1 := by
  apply Uq
  have := J6 (Gj p w) 8 (8 + p.2.2.2.1.size)
  rw [hb, d1, d2, d4, d1] at this
  refine this.trans ?_
  show List.take (8 + p.2.2.2.1.size - 8) (Aa p.2.2.2.1 ++ _) = _
  rw [show 8 + p.2.2.2.1.size - 8 = p.2.2.2.1.size by omega, List.take_append_of_le_length (by rw [Cx]; omega), List.take_of_length_le (by rw [Cx]; omega)]
 have p2 : (256 : Int) ^ 2 = 65536 := by decide
 have p4 : (256 : Int) ^ 4 = 4294967296 := by decide
 unfold Axg
 rw [b7, b0, c1, c3, c8, Au9 (by omega) (by omega), Au9 (by omega) (by omega)]
theorem Az7 {p : Pg} {w : Int} (h : Jh p w = true) : Cw (D1 p w) w = (p, true) := by
 obtain ⟨hw, k1, k2, kp⟩ := R1 h
 obtain ⟨hs, ht⟩ := Axk h
 have hr := A10 h
 have b7 : Ae (Gj p w) 7 = p.2.2.2.1.size := by
  have := W8 (Gj p w) 7
  rw [Aau] at this
  refine this.trans ?_
  show (p.2.2.2.1.size : Int) % 256 = _
  omega
 unfold Cw Axh
 rw [ht, hr, hw, hs, b7, beq_self_eq_true, decide_eq_false (by omega)]
 rfl
theorem R4 {s : ByteArray} {w : Int} {p : Pg} (h : Cw s w = (p, true)) : s.size = 64 ∧ Eo w 1 8 = true ∧ D1 p w = s ∧ Jh p w = true := by
 unfold Cw at h
 cases h1 : (nI s.size != 64) with
 | true => rw [h1] at h; cases h
 | false =>
  cases h2 : Eo w 1 8 with
  | false => rw [h1, h2] at h; cases h
  | true =>
   cases h3 : decide (Ae (Ah s w (nI s.size)) 7 > 56 - w) with
   | true => rw [h1, h2, h3] at h; cases h
   | false =>
    cases h4 : ((D1 (Axh s w) w).toList == s.toList) with
    | false => rw [h1, h2, h3, h4] at h; cases h
    | true =>
     rw [h1, h2, h3, h4] at h
     have e : Axh s w = p := congrArg Prod.fst h
     rw [e] at h4
     have e2 := Ayw h4
     have hs : s.size = 64 := by
      by_cases q : nI s.size = 64
      ·simp only [nI] at q; omega
      ·rw [(bne_iff_ne).2 q] at h1; cases h1
     refine ⟨hs, rfl, e2, ?_⟩
     cases hp : Jh p w with
     | true => rfl
     | false =>
      unfold D1 at e2
      rw [hp] at e2
      subst e2
      cases hs
theorem Az8 {s : ByteArray} {w : Int} {p : Pg} (h : Cw s w = (p, true)) (h5 : p.2.2.2.1.size = 5) :
  ((Vd (J9 p) w).toList == s.toList) = ((p.1 == 4) && Me (J9 p)) := by
 obtain ⟨hs, hw, hf, hp⟩ := R4 h
 cases hr : Me (J9 p) with
 | false =>
  rw [Bool.and_false]
  cases q : ((Vd (J9 p) w).toList == s.toList) with
  | false => rfl
  | true =>
   have e := Ayw q
   unfold Vd at e
   rw [hr] at e
   subst e
   cases hs
 | true =>
  rw [Bool.and_true]
  have hpart : C1 (J9 p).2.1 1 ++ C1 (J9 p).2.2.1 4 = p.2.2.2.1 := by
   apply Uq
   have e4 : (Ah p.2.2.2.1 1 (nI p.2.2.2.1.size)).size = 4 := by rw [Fp (by omega) (by simp only [nI]; omega) (by simp [nI])]; simp only [nI, h5]; decide
   have e5 : C1 (Zh (Ah p.2.2.2.1 1 (nI p.2.2.2.1.size))) 4 = Ah p.2.2.2.1 1 (nI p.2.2.2.1.size) := by
    have := A1z (Ah p.2.2.2.1 1 (nI p.2.2.2.1.size))
    rw [e4] at this
    exact this
   show Aa (C1 (Ae p.2.2.2.1 0) 1 ++ C1 (Zh (Ah p.2.2.2.1 1 (nI p.2.2.2.1.size))) 4) = _
   obtain ⟨b0, b1⟩ := Gk p.2.2.2.1 0
   rw [e5, M4, La, Ac1 (s := p.2.2.2.1) (by omega)]
   show [Ae p.2.2.2.1 0 % 256] ++ _ = _
   rw [show Ae p.2.2.2.1 0 % 256 = Ae p.2.2.2.1 0 by omega]
   rfl
  have hR : Vd (J9 p) w = D1 (4, p.2.1, p.2.2.1, p.2.2.2.1, ()) w := by
   unfold Vd
   rw [hr, hpart]
   rfl
  rw [hR]
  by_cases hk : p.1 = 4
  ·have e : ((4, p.2.1, p.2.2.1, p.2.2.2.1, ()) : Pg) = p := by rw [← hk]
   rw [e, hf, hk, beq_self_eq_true]
   rfl
  ·rw [beq_eq_false_iff_ne.2 hk]
   cases q : ((D1 (4, p.2.1, p.2.2.1, p.2.2.2.1, ()) w).toList == s.toList) with
   | false => rfl
   | true =>
    have e := Ayw q
    cases ho : Jh (4, p.2.1, p.2.2.1, p.2.2.2.1, ()) w with
    | false =>
     unfold D1 at e
     rw [ho] at e
     subst e
     cases hs
    | true =>
     have r := Az7 ho
     rw [e, h] at r
     exact absurd (congrArg (fun x : Pg × Bool => x.1.1) r) hk
theorem Az9 {a n : Int} (hn : 0 < n) : (a + n - 1) / n = 1 + (a - n + n - 1) / n := by
 have : a + n - 1 = (a - n + n - 1) + n * 1 := by omega
 rw [this, Int.add_mul_ediv_left _ _ (by omega)]
 omega
theorem Aq3 (n : Nat) (hn : 1 ≤ n) : ∀ (f : Nat) (s : ByteArray), s.size ≤ f → ((Fi n f s).length : Int) = if ((s.size : Int) + n - 1) / n > 1 then ((s.size : Int) + n - 1) / n else 1
 | 0, s, h => by
  have h0 : s.size = 0 := by omega
  simp only [Fi, h0]
  have : (((0 : Nat) : Int) + n - 1) / n = 0 := Int.ediv_eq_zero_of_lt (by omega) (by omega)
  exact (if_neg (by rw [this]; decide)).symm
 | f + 1, s, h => by
  by_cases q : s.size > n
  ·have hc : (Ah s n (nI s.size)).size = s.size - n := by rw [Fp (by omega) (by simp only [nI]; omega) (by simp [nI])]; simp only [nI]; omega
   simp only [Fi, if_pos q, List.length_cons]
   have ih := Aq3 n hn f (Ah s n (nI s.size)) (by omega)
   rw [hc] at ih
   have e := Az9 (a := s.size) (n := n) (by omega)
   have e2 : ((s.size - n : Nat) : Int) = (s.size : Int) - n := by omega
   rw [e2] at ih
   have hp : 1 ≤ ((s.size : Int) - n + n - 1) / n := by
    rw [Int.le_ediv_iff_mul_le (by omega)]
    omega
   rw [e]
   generalize ((s.size : Int) - n + n - 1) / n = y at *
   rw [if_pos (by omega)]
   split at ih <;> omega
  ·simp only [Fi, if_neg q]
   have : ((s.size : Int) + n - 1) / n < 2 := by
    rw [Int.ediv_lt_iff_lt_mul (by omega)]
    omega
   exact (if_neg (by omega)).symm
theorem Aav {s : ByteArray} {w : Int} (hw : Eo w 1 8 = true) : ((Cs s w).length : Int) = if ((s.size : Int) + (56 - w) - 1) / (56 - w) > 1 then ((s.size : Int) + (56 - w) - 1) / (56 - w) else 1 := by
 obtain ⟨h1, h2⟩ := G4 hw
 obtain ⟨n, hn⟩ : ∃ n : Nat, 56 - w = (n : Int) := ⟨(56 - w).toNat, by omega⟩
 unfold Cs
 rw [hn, Int.toNat_natCast]
 exact Aq3 n (by omega) s.size s (Nat.le_refl _)
theorem Zm (life w : Int) : ∀ (L : List ByteArray) (k : Int), Aqy life w k L = (List.range' 0 L.length).map (fun i => D1 ((if i + 1 = L.length then 2 else 1), life, k + (i : Int), L.getD i z0, ()) w)
 | [], k => rfl
 | [p], k => by
  show [D1 (2, life, k, p, ()) w] = [D1 ((if 0 + 1 = 1 then 2 else 1), life, k + ((0 : Nat) : Int), p, ()) w]
  rw [if_pos rfl, show k + ((0 : Nat) : Int) = k by omega]
 | p :: q :: r, k => by
  have ih := Zm life w (q :: r) (k + 1)
  show D1 (1, life, k, p, ()) w :: Aqy life w (k + 1) (q :: r) = (List.range' 0 ((q :: r).length + 1)).map (fun i => D1 ((if i + 1 = (q :: r).length + 1 then 2 else 1), life, k + (i : Int), (p :: q :: r).getD i z0, ()) w)
  rw [ih, List.range'_succ, List.map_cons]
  congr 1
  ·rw [if_neg (by rw [List.length_cons]; omega), show k + ((0 : Nat) : Int) = k by omega]
   rfl
  ·rw [show List.range' (0 + 1) (q :: r).length = List.map (fun x => 1 + x) (List.range' 0 (q :: r).length) by rw [List.map_add_range'], List.map_map]
   refine List.map_congr_left fun i _ => ?_
   show _ = D1 ((if 1 + i + 1 = (q :: r).length + 1 then 2 else 1), life, k + ((1 + i : Nat) : Int), (p :: q :: r).getD (1 + i) z0, ()) w
   rw [show k + ((1 + i : Nat) : Int) = k + 1 + (i : Int) by omega, show 1 + i = i + 1 by omega]
   by_cases e : i + 1 = (q :: r).length
   ·rw [if_pos e, if_pos (by omega)]; rfl
   ·rw [if_neg e, if_neg (by omega)]; rfl
theorem Aq4 {β : Type} (g : Nat → β) : ∀ k i (r : List β), iter (fun i r => r ++ [g i]) k i r = r ++ (List.range' i k).map g
 | 0, i, r => by simp [iter]
 | k + 1, i, r => by
  simp only [iter]
  rw [Aq4 g k (i + 1), List.range'_succ, List.map_cons, List.append_assoc]
  rfl
theorem Mh.sync {d : Dk} (h : Mh d) : Mh (Auu d) := by
 have hl := Rf d.1 d.2.1
 have hs : Auy d.1.length (Lg d.1 d.2.1) := Afd (Auy d.1.length) _ d.2.1 0 d.1 (fun i s w hw hI => hI.set (Auz (z := zW) (P := fun w : Wr => w.2.1.size = 64) (fun i hi => (h.pen i hi).2.2) w hw)) ⟨rfl, h.sec⟩
 exact ⟨by show 8 ≤ (Lg d.1 d.2.1).length; rw [hl]; exact h.n8, by show (Lg d.1 d.2.1).length ≤ 200; rw [hl]; exact h.n200, by show (0 : Nat) ≤ 300; omega, fun i hi => hs.2 i (by rw [← hl]; exact hi), fun i hi => absurd hi (by show ¬ i < 0; omega)⟩
theorem Mh.op {d : Dk} (h : Mh d) (o : Opn) : Mh (opS d o) := by
 unfold opS
 cases o.1 with
 | true => exact h.sync
 | false =>
  cases hc : Aic d.1.length (o.2.1, o.2.2.1, ()) && decide (d.2.1.length < 300) with
  | false => exact h
  | true =>
   obtain ⟨h1, h2⟩ := Cj hc
   obtain ⟨q1, q2⟩ := Cj h1
   obtain ⟨q2, q3⟩ := Cj q2
   have h2 := of_decide_eq_true h2
   refine ⟨h.n8, h.n200, by show (d.2.1 ++ [(o.2.1, o.2.2.1, ())]).length ≤ 300; rw [List.length_append, List.length_singleton]; omega, h.sec, fun i hi => ?_⟩
   have hi : i < d.2.1.length + 1 := by
    have hi : i < (d.2.1 ++ [(o.2.1, o.2.2.1, ())]).length := hi
    rw [List.length_append, List.length_singleton] at hi
    exact hi
   show 0 ≤ ((d.2.1 ++ [(o.2.1, o.2.2.1, ())]).getD i zW).1 ∧ ((d.2.1 ++ [(o.2.1, o.2.2.1, ())]).getD i zW).1 < (d.1.length : Int) ∧ ((d.2.1 ++ [(o.2.1, o.2.2.1, ())]).getD i zW).2.1.size = 64
   by_cases e : i < d.2.1.length
   ·have : (d.2.1 ++ [(o.2.1, o.2.2.1, ())]).getD i zW = d.2.1.getD i zW := by
     rw [List.getD_eq_getElem?_getD, List.getElem?_append_left e, ← List.getD_eq_getElem?_getD]
    rw [this]
    exact h.pen i e
   ·obtain rfl : i = d.2.1.length := by omega
    have : (d.2.1 ++ [(o.2.1, o.2.2.1, ())]).getD d.2.1.length zW = (o.2.1, o.2.2.1, ()) := by
     rw [List.getD_eq_getElem?_getD, List.getElem?_append_right (Nat.le_refl _), Nat.sub_self]
     rfl
    rw [this]
    exact ⟨of_decide_eq_true q1, of_decide_eq_true q2, of_decide_eq_true q3⟩
theorem Mh.ops : ∀ (l : List Opn) {d : Dk}, Mh d → Mh (l.foldl opS d)
 | [], _, h => h
 | o :: r, _, h => Mh.ops r (h.op o)
theorem Zn (n : Nat) : ∀ (f : Nat) (s : ByteArray), (Fi n f s).length ≤ f + 1
 | 0, s => by simp [Fi]
 | f + 1, s => by
  unfold Fi
  split
  ·rw [List.length_cons]
   have := Zn n f (Ah s n (nI s.size))
   omega
  ·simp
end Go.Proofs.YteaoabdlcefkhaaGreat.V

