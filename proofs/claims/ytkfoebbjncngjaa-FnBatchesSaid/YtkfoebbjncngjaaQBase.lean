/- Plain facts. No condition. -/
import Derived.Test.YtkfoebbjncngjaaMBase
namespace Go.Proofs.Ytkfoebbjncngjaa.V
open Go Go.Proofs.Ytkfoebbjncngjaa.R
set_option linter.unusedVariables false
set_option linter.unusedSimpArgs false
theorem At {n : Int} (h0 : -9223372036854775808 ≤ n) (h1 : n < 9223372036854775808) : IntKind.i64.wrap n = n := by
 have e : IntKind.i64.wrap n = if n % 18446744073709551616 ≥ 9223372036854775808 then n % 18446744073709551616 - 18446744073709551616 else n % 18446744073709551616 := by
  simp [IntKind.wrap, IntKind.bits, IntKind.signed]
 rw [e]
 split <;> omega
theorem Nt {α : Type} (xs : List α) (i : Nat) (z : α) (h : i < xs.length) : xs.drop i = xs.getD i z :: xs.drop (i + 1) := by
 rw [List.drop_eq_getElem_cons h]
 simp [List.getD, List.getElem?_eq_getElem h]
theorem cLt {i n : Nat} (h : i < n) : decide ((i : Int) < nI n) = true := by simp [nI]; omega
theorem i4 {n : Nat} : decide ((n : Int) < nI n) = false := by simp [nI]
theorem i5 {i : Nat} : decide ((0 : Int) ≤ (i : Int)) = true := by simp
theorem wI {i : Nat} (h : i < 4611686018427387904) : IntKind.i64.wrap ((i : Int) + 1) = ((i + 1 : Nat) : Int) := by rw [At (by omega) (by omega)]; rfl
theorem Yk {α : Type} {f : α → α → Bool} : ∀ {xs ys : List α}, xs.length ≠ ys.length → Zf f xs ys = false
 | [], [], h => absurd rfl h
 | [], _ :: _, _ => rfl
 | _ :: _, [], _ => rfl
 | x :: xs, y :: ys, h => by
  simp only [Zf]
  rw [Yk (by simpa using h), Bool.and_false]
theorem Yl {α E : Type} {xs ys : List α} (z : α) (f : α → α → Bool) {g : Nat → Int → Option E} {ok bad : E} (hl : ys.length = xs.length)
  (hs : ∀ m (i : Nat), i < xs.length → g (m + 1) i = bif f (xs.getD i z) (ys.getD i z) then g m ((i + 1 : Nat) : Int) else some bad)
  (he : ∀ m, g (m + 1) (xs.length : Int) = some ok) :
  ∀ (m i : Nat), i ≤ xs.length → xs.length - i < m → g m i = some (bif Zf f (xs.drop i) (ys.drop i) then ok else bad)
 | 0, i, hi, hm => by omega
 | m + 1, i, hi, hm => by
  by_cases h : i < xs.length
  ·rw [hs m i h, Nt xs i z h, Nt ys i z (by omega)]
   simp only [Zf]
   cases f (xs.getD i z) (ys.getD i z) with
   | false => rfl
   | true =>
    rw [cond_true, Yl z f hl hs he m (i + 1) (by omega) (by omega), Bool.true_and]
  ·have : i = xs.length := by omega
   subst this
   have hy : ys.drop xs.length = [] := List.drop_eq_nil_of_le (by omega)
   rw [he, List.drop_length, hy]
   rfl
theorem Q9 {E : Type} {n : Nat} {g : Nat → Int → Option E} {ok bad : E} (p : Nat → Bool)
  (hs : ∀ m (i : Nat), i < n → g (m + 1) i = bif p i then g m ((i + 1 : Nat) : Int) else some bad)
  (he : ∀ m, g (m + 1) (n : Int) = some ok) :
  ∀ (m i : Nat), i ≤ n → n - i < m → g m i = some (bif (List.range' i (n - i)).all p then ok else bad)
 | 0, i, hi, hm => by omega
 | m + 1, i, hi, hm => by
  by_cases h : i < n
  ·have e : n - i = (n - (i + 1)) + 1 := by omega
   rw [hs m i h, e, List.range'_succ, List.all_cons]
   cases p i with
   | false => rfl
   | true =>
    rw [cond_true, Q9 p hs he m (i + 1) (by omega) (by omega), Bool.true_and]
  ·have : i = n := by omega
   subst this
   rw [he, Nat.sub_self]
   rfl
theorem Nu {a b : Bool} (h : (a && b) = true) : a = true ∧ b = true := by
 cases a <;> cases b <;> first | exact ⟨rfl, rfl⟩ | cases h
theorem D5 {α : Type} {r : List α} {i : Nat} {x z : α} (h : i < r.length) : (r.set i x).getD i z = x := by
 simp [List.getD, h]
theorem x8 (n : Nat) (c : Nat) : decide (nI n > (c : Int)) = !decide (n ≤ c) := by
 by_cases q : n ≤ c
 ·have : ¬ (nI n > (c : Int)) := by simp [nI]; omega
  rw [decide_eq_true q, decide_eq_false this]; rfl
 ·have : nI n > (c : Int) := by simp [nI]; omega
  rw [decide_eq_false q, decide_eq_true this]; rfl
theorem Ra {α : Type} {f : α → α → Bool} (h : ∀ x, f x x = true) : ∀ xs, Zf f xs xs = true
 | [] => rfl
 | x :: r => by simp only [Zf, h, Ra h r, Bool.and_self]
theorem i6 (x : Int) : eqI x x = true := decide_eq_true rfl
theorem i7 (x : Bool) : eqO x x = true := by cases x <;> rfl
theorem i8 (x : ByteArray) : eqS x x = true := by unfold eqS; simp
theorem Mm : ∀ (t : Ty) (x : t.D), Xb t x x = true
 | .int _, x => i6 x
 | .bool, x => i7 x
 | .str, x => i8 x
 | .sl t, xs => Ra (Mm t) xs
 | .unit, _ => rfl
 | .pair a b, x => by
  show (Xb a x.1 x.1 && Xb b x.2 x.2) = true
  rw [Mm, Mm]
  rfl
theorem Nv {α σ : Type} (Inv : σ → Prop) (step : Nat → α → σ → σ) : ∀ (l : List α) (i : Nat) (s : σ), (∀ i s x, x ∈ l → Inv s → Inv (step i x s)) → Inv s → Inv (h8 step i l s)
 | [], _, _, _, h => h
 | x :: r, i, s, hs, h => Nv Inv step r (i + 1) _ (fun i s y hy => hs i s y (List.mem_cons_of_mem _ hy)) (hs i s x (by simp) h)
theorem Lb {s : ByteArray} {a b : Int} (h0 : 0 ≤ a) (h1 : a ≤ b) (h2 : b ≤ (s.size : Int)) : (Ab s a b).size = (b - a).toNat := by
 unfold Ab
 rw [ByteArray.size_extract]
 omega
structure Hc (d : Dk) : Prop where
 n8 : 8 ≤ d.1.length
 n200 : d.1.length ≤ 200
 p300 : d.2.1.length ≤ 300
 sec : ∀ i, i < d.1.length → (d.1.getD i z0).size = 64
 pen : ∀ i, i < d.2.1.length → 0 ≤ (d.2.1.getD i zW).1 ∧ (d.2.1.getD i zW).1 < (d.1.length : Int) ∧ (d.2.1.getD i zW).2.1.size = 64
theorem getD_set_ne {α : Type} {r : List α} {i j : Nat} {x z : α} (h : i ≠ j) : (r.set i x).getD j z = r.getD j z := by
 simp [List.getD, List.getElem?_set_ne h]
theorem Uq (sec : List ByteArray) (ws : List Wr) : (V4 sec ws).length = sec.length :=
 Nv (fun s => s.length = sec.length) _ ws 0 sec (fun i s w _ h => by rw [List.length_set]; exact h) rfl
def V6 (n : Nat) (s : List ByteArray) : Prop := s.length = n ∧ ∀ i, i < n → (s.getD i z0).size = 64
theorem V6.set {n : Nat} {s : List ByteArray} (h : V6 n s) {j : Nat} {x : ByteArray} (hx : x.size = 64) : V6 n (s.set j x) := by
 refine ⟨by rw [List.length_set]; exact h.1, fun i hi => ?_⟩
 by_cases q : j = i
 ·subst q
  rw [D5 (by rw [h.1]; exact hi)]
  exact hx
 ·rw [getD_set_ne q]
  exact h.2 i hi
theorem bi_ {α β : Type} {m : Option α} {f : α → Option β} {a : α} {r : Option β} (h : m = some a) (h2 : f a = r) : m.bind f = r := by
 rw [h]; exact h2
theorem V7 {α : Type} {l : List α} {z : α} {P : α → Prop} (h : ∀ i, i < l.length → P (l.getD i z)) : ∀ x ∈ l, P x := by
 intro x hx
 obtain ⟨i, hi, rfl⟩ := List.mem_iff_getElem.1 hx
 have := h i hi
 rw [List.getD_eq_getElem?_getD, List.getElem?_eq_getElem hi] at this
 exact this
theorem F7 (a : List Int) : (strOfNums a).size = a.length := by
 unfold strOfNums
 show (List.toArray _).size = _
 simp
theorem V8 (v : Int) : ∀ n, (Xc v n).length = n
 | 0 => rfl
 | n + 1 => by simp only [Xc, List.length_append, V8 (v / 256) n, List.length_singleton]
theorem i9 (v : Int) (n : Nat) : (Jk v n).size = n := by unfold Jk; rw [F7, V8]
theorem Hp (s : ByteArray) (i : Int) : 0 ≤ Af s i ∧ Af s i < 256 := by
 unfold Af
 have := (s.data.toList.getD i.toNat 0).toNat_lt
 omega
theorem Ur {σ ρ : Type} (n : Nat) (Inv : Nat → σ → Prop) (step : Nat → σ → σ) {g : Nat → Nat → σ → Option ρ} {ok : σ → ρ}
  (hs : ∀ m i s, i < n → Inv i s → g (m + 1) i s = g m (i + 1) (step i s)) (he : ∀ m s, Inv n s → g (m + 1) n s = some (ok s))
  (hI : ∀ i s, i < n → Inv i s → Inv (i + 1) (step i s)) : ∀ k m i s, i + k = n → k < m → Inv i s → g m i s = some (ok (iter step k i s))
 | 0, m + 1, i, s, hi, _, h => by
  obtain rfl : i = n := by omega
  exact he m s h
 | k + 1, m + 1, i, s, hi, hm, h => by
  rw [hs m i s (by omega) h]
  exact Ur n Inv step hs he hI k m (i + 1) _ (by omega) (by omega) (hI i s (by omega) h)
theorem Rb {v lo hi : Int} (h : Of v lo hi = true) : lo ≤ v ∧ v ≤ hi := ⟨of_decide_eq_true (Nu h).1, of_decide_eq_true (Nu h).2⟩
theorem Aar (x lo hi : Int) {ρ : Type} (f t : ρ) : (bif decide (x < lo) then f else bif decide (x > hi) then f else t) = bif Of x lo hi then t else f := by
 unfold Of
 by_cases h1 : x < lo
 ·rw [decide_eq_true h1, decide_eq_false (show ¬ lo ≤ x by omega)]; rfl
 ·rw [decide_eq_false h1, decide_eq_true (show lo ≤ x by omega)]
  by_cases h2 : x > hi
  ·rw [decide_eq_true h2, decide_eq_false (show ¬ x ≤ hi by omega)]; rfl
  ·rw [decide_eq_false h2, decide_eq_true (show x ≤ hi by omega)]; rfl
theorem Rc {α β : Type} (f : α → List β) (z : α) (xs : List α) : ∀ k i r, i + k = xs.length → iter (fun i r => r ++ f (xs.getD i z)) k i r = r ++ ((xs.drop i).map f).flatten
 | 0, i, r, h => by
  rw [List.drop_eq_nil_of_le (by omega)]
  simp [iter]
 | k + 1, i, r, h => by
  rw [Nt xs i z (by omega)]
  simp only [iter, List.map_cons, List.flatten_cons]
  rw [Rc f z xs k (i + 1) _ (by omega), List.append_assoc]
theorem Zg (a b : ByteArray) : Aa (a ++ b) = Aa a ++ Aa b := by
 unfold Aa
 simp
theorem Cs (s : ByteArray) : (Aa s).length = s.size := by
 unfold Aa
 rw [List.length_map]
 rfl
theorem E4 (l : List Int) (h : Bt l = true) : Aa (strOfNums l) = l := by
 unfold Aa strOfNums
 show (List.map _ (List.map _ l)) = l
 rw [List.map_map]
 conv => rhs; rw [← List.map_id l]
 refine List.map_congr_left fun x hx => ?_
 have := List.all_eq_true.1 h x hx
 obtain ⟨h1, h2⟩ := Nu this
 have h1 := of_decide_eq_true h1
 have h2 := of_decide_eq_true h2
 show (((UInt8.ofNat x.toNat).toNat : Nat) : Int) = x
 rw [UInt8.toNat_ofNat']
 rw [Nat.mod_eq_of_lt (by omega)]
 omega
theorem Hq (s : ByteArray) : Bt (Aa s) = true := by
 refine List.all_eq_true.2 fun x hx => ?_
 obtain ⟨b, _, rfl⟩ := List.mem_map.1 hx
 have := b.toNat_lt
 show (decide (0 ≤ (b.toNat : Int)) && decide ((b.toNat : Int) < 256)) = true
 rw [decide_eq_true (by omega), decide_eq_true (by omega)]
 rfl
theorem Cx (a b : List Int) : Bt (a ++ b) = (Bt a && Bt b) := List.all_append
theorem p9 (n : Nat) (h : n < 256) : Jk (nI n) 1 = strOfNums [nI n] := by
 unfold Jk
 simp only [Xc, List.nil_append]
 rw [show nI n % 256 = nI n by simp only [nI]; omega]
theorem Pm (n : Nat) (h : n < 256) : Bt [nI n] = true := by
 show ((decide (0 ≤ nI n) && decide (nI n < 256)) && true) = true
 rw [decide_eq_true (by simp only [nI]; omega), decide_eq_true (by simp only [nI]; omega)]
 rfl
theorem V9 (n : Nat) (h : n < 256) : Aa (Jk (nI n) 1) = [nI n] := by
 rw [p9 n h, E4 _ (Pm n h)]
theorem x9 (n : Nat) (h : n < 256) : IntKind.wrap IntKind.u8 (nI n) = nI n := by
 show nI n % 256 = nI n
 simp only [nI]; omega
theorem Ka {c : Chg} (h : Eo c = true) : 1 ≤ c.1.size ∧ c.1.size ≤ 20 ∧ c.2.1.size ≤ 100 := by
 obtain ⟨h1, h2⟩ := Nu h
 obtain ⟨h2, _⟩ := Nu h2
 have := Rb h1
 have := of_decide_eq_true h2
 omega
theorem Gz {c : Chg} (h : Eo c = true) : Bt (Fg c) = true ∧ (Fg c).length ≤ 200 := by
 obtain ⟨k1, k2, k3⟩ := Ka h
 unfold Fg
 have a1 := Pm c.1.size (by omega)
 have a2 := Pm c.2.1.size (by omega)
 have b1 : Bt [1, nI c.1.size] = true := by
  rw [show [1, nI c.1.size] = [1] ++ [nI c.1.size] from rfl, Cx, a1]; rfl
 have b0 : Bt [0, nI c.1.size] = true := by
  rw [show [0, nI c.1.size] = [0] ++ [nI c.1.size] from rfl, Cx, a1]; rfl
 cases c.2.2.1
 ·simp only [cond_false, Cx, b0, a2, Hq, List.length_append, Cs, List.length_cons, List.length_nil]
  exact ⟨rfl, by omega⟩
 ·simp only [cond_true, Cx, b1, Hq, List.length_append, Cs, List.length_cons, List.length_nil]
  exact ⟨rfl, by omega⟩
theorem Hd {b : List Chg} (h : Am b = true) : b.length ≤ 20 ∧ ∀ i, i < b.length → Eo (b.getD i zC) = true := by
 obtain ⟨h1, h2⟩ := Nu h
 refine ⟨by have := (Rb h1).2; omega, fun i hi => ?_⟩
 exact List.all_eq_true.1 h2 i (List.mem_range'_1.2 ⟨by omega, by omega⟩)
def Re (i : Nat) (r : List Int) : Prop := r.length ≤ 200 * i ∧ Bt r = true
theorem Re.step {i : Nat} {r : List Int} {c : Chg} (h : Re i r) (hc : Eo c = true) : Re (i + 1) (r ++ Fg c) := by
 obtain ⟨q1, q2⟩ := Gz hc
 exact ⟨by rw [List.length_append]; have := h.1; omega, by rw [Cx, h.2, q1]; rfl⟩
theorem Wa {b : List Chg} (h : ∀ i, i < b.length → Eo (b.getD i zC) = true) : ∀ k i r, i + k = b.length → Re i r → Re b.length (iter (fun i r => r ++ Fg (b.getD i zC)) k i r)
 | 0, i, r, e, hr => by
  obtain rfl : i = b.length := by omega
  exact hr
 | k + 1, i, r, e, hr => Wa h k (i + 1) _ (by omega) (hr.step (h i (by omega)))
theorem Us {a b : ByteArray} (h : Aa a = Aa b) : a = b := by
 apply ByteArray.ext
 apply Array.ext'
 unfold Aa at h
 exact (List.map_inj_right (fun x y e => UInt8.toNat_inj.1 (by omega))).1 h
theorem Fv (s : ByteArray) (a b : Nat) : Aa (Ab s a b) = ((Aa s).drop a).take (b - a) := by
 unfold Aa Ab
 simp [List.map_drop, List.map_take]
theorem y5 {a b : ByteArray} (h : (a.toList == b.toList) = true) : a = b := by
 have h := eq_of_beq h
 rw [ByteArray.toList_eq, ByteArray.toList_eq] at h
 apply ByteArray.ext
 exact Array.ext' h
theorem Aas {s : ByteArray} (h : Aa s = []) : s = ByteArray.mk #[] := Us h
theorem Pn {s : ByteArray} (h : 0 < s.size) : Aa s = Af s 0 :: Aa (Ab s 1 (nI s.size)) := by
 have hc := Fv s 1 s.size
 have e : Ab s 1 (nI s.size) = Ab s ((1 : Nat) : Int) ((s.size : Nat) : Int) := rfl
 rw [e, hc]
 have hl := Cs s
 cases hb : Aa s with
 | nil => rw [hb] at hl; simp at hl; omega
 | cons x r =>
  have hx : Af s 0 = x := by
   unfold Af
   unfold Aa at hb
   cases hd : s.data.toList with
   | nil => rw [hd] at hb; simp at hb
   | cons y q => rw [hd] at hb; simp at hb; simp [hb.1]
  rw [hx, List.drop_one, List.tail_cons, List.take_of_length_le]
  rw [hb] at hl
  simp at hl
  omega
theorem Oj {s : ByteArray} (h : (Ah s).2.2 = true) : Aa s = nI (Ah s).1.size :: (Aa (Ah s).1 ++ Aa (Ah s).2.1) := by
 unfold Ah at h ⊢
 split at h
 ·cases h
 ·rename_i hc
  rw [if_neg hc]
  obtain ⟨b0, b1⟩ := Hp s 0
  have h0 : 0 < s.size := by omega
  rw [Pn h0]
  obtain ⟨n, hn⟩ : ∃ n : Nat, Af s 0 = (n : Int) := ⟨(Af s 0).toNat, by omega⟩
  have e1 : (Ab s 1 (1 + Af s 0)).size = n := by rw [Lb (by omega) (by omega) (by omega)]; omega
  simp only [e1]
  rw [hn]
  congr 1
  have q1 : Ab s 1 (nI s.size) = Ab s ((1 : Nat) : Int) ((s.size : Nat) : Int) := rfl
  have q2 : Ab s 1 (1 + (n : Int)) = Ab s ((1 : Nat) : Int) ((1 + n : Nat) : Int) := by rw [show (1 + (n : Int)) = ((1 + n : Nat) : Int) by omega] <;> rfl
  have q3 : Ab s (1 + (n : Int)) (nI s.size) = Ab s ((1 + n : Nat) : Int) ((s.size : Nat) : Int) := by rw [show (1 + (n : Int)) = ((1 + n : Nat) : Int) by omega] <;> rfl
  rw [q1, q2, q3, Fv, Fv, Fv]
  have hl := Cs s
  rw [List.take_of_length_le (by rw [List.length_drop]; omega), show 1 + n - 1 = n by omega, List.take_of_length_le (l := List.drop (1 + n) (Aa s)) (by rw [List.length_drop]; omega), ← List.drop_drop]
  exact (List.take_append_drop n _).symm
theorem F8 {s k t : ByteArray} (hk : k.size < 256) (h : Aa s = nI k.size :: (Aa k ++ Aa t)) : Ah s = (k, t, true) := by
 have hl := Cs s
 have hlk := Cs k
 have hlt := Cs t
 rw [h, List.length_cons, List.length_append, hlk, hlt] at hl
 have h0 : 0 < s.size := by omega
 have hh := Pn h0
 rw [h] at hh
 have hb : Af s 0 = nI k.size := (List.cons.inj hh).1.symm
 have ht := (List.cons.inj hh).2
 unfold Ah
 rw [hb, if_neg (by simp only [nI]; omega)]
 have q1 : Ab s 1 (1 + nI k.size) = Ab s ((1 : Nat) : Int) ((1 + k.size : Nat) : Int) := by rw [show (1 + nI k.size) = ((1 + k.size : Nat) : Int) by simp only [nI]; omega] <;> rfl
 have q2 : Ab s (1 + nI k.size) (nI s.size) = Ab s ((1 + k.size : Nat) : Int) ((s.size : Nat) : Int) := by rw [show (1 + nI k.size) = ((1 + k.size : Nat) : Int) by simp only [nI]; omega] <;> rfl
 have hd : (Aa s).drop 1 = Aa k ++ Aa t := by rw [h]; rfl
 have e1 : Ab s 1 (1 + nI k.size) = k := by
  apply Us
  rw [q1, Fv, hd, show 1 + k.size - 1 = k.size by omega, List.take_append_of_le_length (by omega), List.take_of_length_le (by omega)]
 have e2 : Ab s (1 + nI k.size) (nI s.size) = t := by
  apply Us
  rw [q2, Fv, ← List.drop_drop, hd, List.drop_append_of_le_length (by omega), List.drop_of_length_le (by omega), List.nil_append, List.take_of_length_le (by omega)]
 rw [e1, e2]
theorem Xd {s : ByteArray} (h0 : 0 < s.size) {c : Chg} {t : ByteArray} (h : Oi true s = some (c, t)) : Aa s = Fg c ++ Aa t := by
 unfold Oi at h
 rw [Pn h0]
 obtain ⟨b0, b1⟩ := Hp s 0
 by_cases g1 : Af s 0 > 1
 ·rw [decide_eq_true g1] at h; cases h
 ·rw [decide_eq_false g1] at h
  have hp := @Oj (Ab s 1 (nI s.size))
  generalize Ah (Ab s 1 (nI s.size)) = p at *
  obtain ⟨k, u, o⟩ := p
  cases o
  ·cases h
  ·rw [hp rfl]
   by_cases g2 : Af s 0 = 1
   ·rw [g2] at h ⊢
    cases h
    simp [Fg]
   ·have g3 : Af s 0 = 0 := by omega
    rw [g3] at h ⊢
    have hq := @Oj u
    have h : (bif !(Ah u).2.2 then none else some ((k, (Ah u).1, false, ()), (Ah u).2.1)) = some (c, t) := h
    generalize Ah u = q at *
    obtain ⟨v, w, o⟩ := q
    cases o
    ·cases h
    ·cases h
     have := hq rfl
     simp only at this ⊢
     rw [this]
     simp [Fg]
theorem R9 {s : ByteArray} {c : Chg} {t : ByteArray} (hc : Eo c = true) (h : Aa s = Fg c ++ Aa t) (b : Bool) : 0 < s.size ∧ Oi b s = some (c, t) := by
 obtain ⟨k1, k2, k3⟩ := Ka hc
 obtain ⟨k, v, g, u⟩ := c
 have hl := Cs s
 have h0 : 0 < s.size := by
  rw [h, List.length_append] at hl
  unfold Fg at hl
  cases g <;> simp at hl <;> omega
 refine ⟨h0, ?_⟩
 have hh := Pn h0
 rw [h] at hh
 unfold Oi
 cases g
 ·have e : Fg (k, v, false, u) ++ Aa t = 0 :: (nI k.size :: (Aa k ++ (nI v.size :: (Aa v ++ Aa t)))) := by simp [Fg]
  rw [e] at hh
  have hb : Af s 0 = 0 := (List.cons.inj hh).1.symm
  have ht := (List.cons.inj hh).2.symm
  have a2 := Pm v.size (by have : v.size ≤ 100 := k3; omega)
  have ev : Aa (strOfNums (nI v.size :: (Aa v ++ Aa t))) = nI v.size :: (Aa v ++ Aa t) := E4 _ (by
   rw [show nI v.size :: (Aa v ++ Aa t) = [nI v.size] ++ (Aa v ++ Aa t) from rfl, Cx, Cx, a2, Hq, Hq]; rfl)
  have p1 := F8 (s := Ab s 1 (nI s.size)) (k := k) (t := strOfNums (nI v.size :: (Aa v ++ Aa t))) (by have : k.size ≤ 20 := k2; omega) (by rw [ev]; exact ht)
  have p2 := F8 (s := strOfNums (nI v.size :: (Aa v ++ Aa t))) (k := v) (t := t) (by have : v.size ≤ 100 := k3; omega) ev
  rw [p1, hb]
  show (bif b && false then none else (bif !(Ah (strOfNums (nI v.size :: (Aa v ++ Aa t)))).2.2 then none else some ((k, (Ah (strOfNums (nI v.size :: (Aa v ++ Aa t)))).1, false, ()), (Ah (strOfNums (nI v.size :: (Aa v ++ Aa t)))).2.1))) = _
  rw [p2, Bool.and_false]
  rfl
 ·have hv : v = ByteArray.mk #[] := by
   obtain ⟨_, h2⟩ := Nu hc
   obtain ⟨_, h2⟩ := Nu h2
   have h2 : (!(true && !(v.toList == []))) = true := h2
   have h3 : (v.toList == []) = true := by cases hq : (v.toList == []) <;> rw [hq] at h2 <;> first | rfl | cases h2
   have h3 := eq_of_beq h3
   rw [ByteArray.toList_eq] at h3
   apply ByteArray.ext
   exact Array.ext' h3
  subst hv
  have e : Fg (k, ByteArray.mk #[], true, u) ++ Aa t = 1 :: (nI k.size :: (Aa k ++ Aa t)) := by simp [Fg]
  rw [e] at hh
  have hb : Af s 0 = 1 := (List.cons.inj hh).1.symm
  have ht := (List.cons.inj hh).2.symm
  have p1 := F8 (s := Ab s 1 (nI s.size)) (k := k) (t := t) (by have : k.size ≤ 20 := k2; omega) ht
  rw [p1, hb]
  cases b <;> rfl
theorem Ok : ∀ (f : Nat) (r : List Chg) (s : ByteArray) {b : List Chg} {t : ByteArray}, Dr true f r s = some (b, t) → ∃ cs, b = r ++ cs ∧ Aa s = Bo cs ++ Aa t
 | 0, r, s, b, t, h => by
  cases h
  exact ⟨[], by simp, by simp [Bo]⟩
 | f + 1, r, s, b, t, h => by
  unfold Dr at h
  by_cases q : (decide (s.size > 0) && decide (r.length ≤ 20)) = true
  ·rw [q] at h
   have h0 := of_decide_eq_true (Nu q).1
   cases hs : Oi true s with
   | none => rw [hs] at h; cases h
   | some ct =>
    obtain ⟨c, u⟩ := ct
    rw [hs] at h
    obtain ⟨cs, e1, e2⟩ := Ok f (r ++ [c]) u h
    refine ⟨c :: cs, by rw [e1, List.append_assoc]; rfl, ?_⟩
    rw [Xd h0 hs, e2]
    simp [Bo]
  ·rw [Bool.eq_false_iff.2 q] at h
   cases h
   exact ⟨[], by simp, by simp [Bo]⟩
theorem F9 (strict : Bool) : ∀ (cs : List Chg) (f : Nat) (r : List Chg) (s : ByteArray), cs.length < f → r.length + cs.length ≤ 20 → (∀ c ∈ cs, Eo c = true) → Aa s = Bo cs → Dr strict f r s = some (r ++ cs, ByteArray.mk #[])
 | [], f + 1, r, s, _, _, _, h => by
  have hz := Aas (s := s) h
  subst hz
  rw [List.append_nil]
  rfl
 | c :: cs, f + 1, r, s, hf, hr, hok, h => by
  have hb : Aa (strOfNums (Bo cs)) = Bo cs := E4 _ (List.all_eq_true.2 fun x hx => by
   obtain ⟨l, hl, hx⟩ := List.mem_flatten.1 hx
   obtain ⟨d, hd, rfl⟩ := List.mem_map.1 hl
   exact List.all_eq_true.1 (Gz (hok d (List.mem_cons_of_mem _ hd))).1 x hx)
  obtain ⟨h0, hs⟩ := R9 (s := s) (c := c) (t := strOfNums (Bo cs)) (hok c (by simp)) (by rw [hb, h]; rfl) strict
  unfold Dr
  rw [hs, decide_eq_true (show s.size > 0 from h0), decide_eq_true (show r.length ≤ 20 by rw [List.length_cons] at hr; omega)]
  have ih := F9 strict cs f (r ++ [c]) (strOfNums (Bo cs)) (by rw [List.length_cons] at hf; omega) (by rw [List.length_append, List.length_singleton]; rw [List.length_cons] at hr; omega) (fun d hd => hok d (List.mem_cons_of_mem _ hd)) hb
  rw [List.append_assoc] at ih
  exact ih
theorem Rf (s : ByteArray) : strOfNums (Aa s) = s := Us (E4 _ (Hq s))
theorem Ta {b : List Chg} (h : ∀ c ∈ b, Eo c = true) : Bt (Bo b) = true := List.all_eq_true.2 fun x hx => by
 obtain ⟨l, hl, hx⟩ := List.mem_flatten.1 hx
 obtain ⟨d, hd, rfl⟩ := List.mem_map.1 hl
 exact List.all_eq_true.1 (Gz (h d hd)).1 x hx
theorem Hr {b : List Chg} (h : Am b = true) : 1 ≤ b.length ∧ b.length ≤ 20 ∧ ∀ c ∈ b, Eo c = true := by
 obtain ⟨h1, h2⟩ := Hd h
 refine ⟨by have := (Rb (Nu h).1).1; omega, h1, V7 (z := zC) (P := fun c => Eo c = true) h2⟩
theorem Po {s : ByteArray} {b : List Chg} (hv : Am b = true) (hs : Aa s = Bo b) : D6 s = (b, true) ∧ Q8 s = (b, true) := by
 obtain ⟨h1, h2, h3⟩ := Hr hv
 have p1 := F9 true b 22 [] s (by omega) (by simpa using h2) h3 hs
 have p2 := F9 false b 22 [] s (by omega) (by simpa using h2) h3 hs
 have hf : Bi b = s := by
  unfold Bi
  rw [hv, ← hs, cond_true, Rf]
 have hz : (s.size == 0) = false := by
  refine beq_eq_false_iff_ne.2 fun q => ?_
  cases b with
  | nil => simp at h1
  | cons c r =>
   have := Cs s
   rw [q, hs] at this
   unfold Bo Fg at this
   cases hg : c.2.2.1 <;> simp [hg] at this
 unfold D6 Q8
 rw [p1, p2]
 simp only [List.nil_append]
 rw [hv, hf, hz, beq_self_eq_true]
 exact ⟨rfl, rfl⟩
theorem Ut {s : ByteArray} (h : ∀ b, Am b = true → Aa s ≠ Bo b) : D6 s = ([], false) ∧ Q8 s = ([], false) := by
 constructor
 ·unfold D6
  cases hp : Dr true 22 [] s with
  | none => rfl
  | some bt =>
   obtain ⟨b, t⟩ := bt
   simp only
   obtain ⟨cs, e1, e2⟩ := Ok 22 [] s hp
   rw [List.nil_append] at e1
   subst e1
   by_cases ht : t.size > 0
   ·rw [decide_eq_true ht]; rfl
   ·cases hv : Am b with
    | false => rw [Bool.not_false, Bool.or_true]; rfl
    | true =>
     have h0 : Aa t = [] := List.length_eq_zero_iff.1 (by rw [Cs]; omega)
     rw [h0, List.append_nil] at e2
     exact absurd e2 (h b hv)
 ·unfold Q8
  cases hp : Dr false 22 [] s with
  | none => rfl
  | some bt =>
   obtain ⟨b, t⟩ := bt
   simp only
   by_cases hz : s.size = 0
   ·rw [hz]; rfl
   ·rw [beq_eq_false_iff_ne.2 hz, Bool.false_or]
    cases he : ((Bi b).toList == s.toList) with
    | false => rfl
    | true =>
     have e := y5 he
     cases hv : Am b with
     | false =>
      unfold Bi at e
      rw [hv] at e
      subst e
      exact absurd rfl hz
     | true =>
      unfold Bi at e
      rw [hv] at e
      have e : strOfNums (Bo b) = s := e
      have := congrArg Aa e
      rw [E4 _ (Ta (Hr hv).2.2)] at this
      exact absurd this.symm (h b hv)
theorem Zh (s : ByteArray) : Q8 s = D6 s := by
 by_cases h : ∃ b, Am b = true ∧ Aa s = Bo b
 ·obtain ⟨b, h1, h2⟩ := h
  rw [(Po h1 h2).1, (Po h1 h2).2]
 ·have h' : ∀ b, Am b = true → Aa s ≠ Bo b := fun b h1 h2 => h ⟨b, h1, h2⟩
  rw [(Ut h').1, (Ut h').2]
theorem Zi {a n : Int} (hn : 0 < n) : (a + n - 1) / n = 1 + (a - n + n - 1) / n := by
 have : a + n - 1 = (a - n + n - 1) + n * 1 := by omega
 rw [this, Int.add_mul_ediv_left _ _ (by omega)]
 omega
theorem Tc (n : Nat) (hn : 1 ≤ n) : ∀ (f : Nat) (s : ByteArray), s.size ≤ f → ((J9 n f s).length : Int) = if ((s.size : Int) + n - 1) / n > 1 then ((s.size : Int) + n - 1) / n else 1
 | 0, s, h => by
  have h0 : s.size = 0 := by omega
  simp only [J9, h0]
  have : (((0 : Nat) : Int) + n - 1) / n = 0 := Int.ediv_eq_zero_of_lt (by omega) (by omega)
  exact (if_neg (by rw [this]; decide)).symm
 | f + 1, s, h => by
  by_cases q : s.size > n
  ·have hc : (Ab s n (nI s.size)).size = s.size - n := by rw [Lb (by omega) (by simp only [nI]; omega) (by simp [nI])]; simp only [nI]; omega
   simp only [J9, if_pos q, List.length_cons]
   have ih := Tc n hn f (Ab s n (nI s.size)) (by omega)
   rw [hc] at ih
   have e := Zi (a := s.size) (n := n) (by omega)
   have e2 : ((s.size - n : Nat) : Int) = (s.size : Int) - n := by omega
   rw [e2] at ih
   have hp : 1 ≤ ((s.size : Int) - n + n - 1) / n := by
    rw [Int.le_ediv_iff_mul_le (by omega)]
    omega
   rw [e]
   generalize ((s.size : Int) - n + n - 1) / n = y at *
   rw [if_pos (by omega)]
   split at ih <;> omega
  ·simp only [J9, if_neg q]
   have : ((s.size : Int) + n - 1) / n < 2 := by
    rw [Int.ediv_lt_iff_lt_mul (by omega)]
    omega
   exact (if_neg (by omega)).symm
theorem Xe {s : ByteArray} {w : Int} (hw : Of w 1 8 = true) : ((Up s w).length : Int) = if ((s.size : Int) + (56 - w) - 1) / (56 - w) > 1 then ((s.size : Int) + (56 - w) - 1) / (56 - w) else 1 := by
 obtain ⟨h1, h2⟩ := Rb hw
 obtain ⟨n, hn⟩ : ∃ n : Nat, 56 - w = (n : Int) := ⟨(56 - w).toNat, by omega⟩
 unfold Up
 rw [hn, Int.toNat_natCast]
 exact Tc n (by omega) s.size s (Nat.le_refl _)
theorem Ol (life w : Int) : ∀ (L : List ByteArray) (k : Int), Yj life w k L = (List.range' 0 L.length).map (fun i => Oh ((if i + 1 = L.length then 2 else 1), life, k + (i : Int), L.getD i z0, ()) w)
 | [], k => rfl
 | [p], k => by
  show [Oh (2, life, k, p, ()) w] = [Oh ((if 0 + 1 = 1 then 2 else 1), life, k + ((0 : Nat) : Int), p, ()) w]
  rw [if_pos rfl, show k + ((0 : Nat) : Int) = k by omega]
 | p :: q :: r, k => by
  have ih := Ol life w (q :: r) (k + 1)
  show Oh (1, life, k, p, ()) w :: Yj life w (k + 1) (q :: r) = (List.range' 0 ((q :: r).length + 1)).map (fun i => Oh ((if i + 1 = (q :: r).length + 1 then 2 else 1), life, k + (i : Int), (p :: q :: r).getD i z0, ()) w)
  rw [ih, List.range'_succ, List.map_cons]
  congr 1
  ·rw [if_neg (by rw [List.length_cons]; omega), show k + ((0 : Nat) : Int) = k by omega]
   rfl
  ·rw [show List.range' (0 + 1) (q :: r).length = List.map (fun x => 1 + x) (List.range' 0 (q :: r).length) by rw [List.map_add_range'], List.map_map]
   refine List.map_congr_left fun i _ => ?_
   show _ = Oh ((if 1 + i + 1 = (q :: r).length + 1 then 2 else 1), life, k + ((1 + i : Nat) : Int), (p :: q :: r).getD (1 + i) z0, ()) w
   rw [show k + ((1 + i : Nat) : Int) = k + 1 + (i : Int) by omega, show 1 + i = i + 1 by omega]
   by_cases e : i + 1 = (q :: r).length
   ·rw [if_pos e, if_pos (by omega)]; rfl
   ·rw [if_neg e, if_neg (by omega)]; rfl
theorem Hc.sync {d : Dk} (h : Hc d) : Hc (x6 d) := by
 have hl := Uq d.1 d.2.1
 have hs : V6 d.1.length (V4 d.1 d.2.1) := Nv (V6 d.1.length) _ d.2.1 0 d.1 (fun i s w hw hI => hI.set (V7 (z := zW) (P := fun w : Wr => w.2.1.size = 64) (fun i hi => (h.pen i hi).2.2) w hw)) ⟨rfl, h.sec⟩
 exact ⟨by show 8 ≤ (V4 d.1 d.2.1).length; rw [hl]; exact h.n8, by show (V4 d.1 d.2.1).length ≤ 200; rw [hl]; exact h.n200, by show (0 : Nat) ≤ 300; omega, fun i hi => hs.2 i (by rw [← hl]; exact hi), fun i hi => absurd hi (by show ¬ i < 0; omega)⟩
theorem Hc.op {d : Dk} (h : Hc d) (o : Opn) : Hc (opS d o) := by
 unfold opS
 cases o.1 with
 | true => exact h.sync
 | false =>
  cases hc : Aba d.1.length (o.2.1, o.2.2.1, ()) && decide (d.2.1.length < 300) with
  | false => exact h
  | true =>
   obtain ⟨h1, h2⟩ := Nu hc
   obtain ⟨q1, q2⟩ := Nu h1
   obtain ⟨q2, q3⟩ := Nu q2
   have h2 := of_decide_eq_true h2
   refine ⟨h.n8, h.n200, by show (d.2.1 ++ [(o.2.1, o.2.2.1, ())]).length ≤ 300; rw [List.length_append, List.length_singleton]; omega, h.sec, fun i hi => ?_⟩
   have hi : i < d.2.1.length + 1 := by
    have hi : i < (d.2.1 ++ [(o.2.1, o.2.2.1, ())]).length := hi
    rw [List.length_append, List.length_singleton] at hi
    exact hi
   show 0 ≤ ((d.2.1 ++ [(o.2.1, o.2.2.1, ())]).getD i zW).1 ∧ ((d.2.1 ++ [(o.2.1, o.2.2.1, ())]).getD i zW).1 < (d.1.length : Int) ∧ ((d.2.1 ++ [(o.2.1, o.2.2.1, ())]).getD i zW).2.1.size = 64
   by_cases e : i < d.2.1.length
   ·have : (d.2.1 ++ [(o.2.1, o.2.2.1, ())]).getD i zW = d.2.1.getD i zW := by
     rw [List.getD_eq_getElem?_getD, List.getElem?_append_left e, ← List.getD_eq_getElem?_getD]
    rw [this]
    exact h.pen i e
   ·obtain rfl : i = d.2.1.length := by omega
    have : (d.2.1 ++ [(o.2.1, o.2.2.1, ())]).getD d.2.1.length zW = (o.2.1, o.2.2.1, ()) := by
     rw [List.getD_eq_getElem?_getD, List.getElem?_append_right (Nat.le_refl _), Nat.sub_self]
     rfl
    rw [this]
    exact ⟨of_decide_eq_true q1, of_decide_eq_true q2, of_decide_eq_true q3⟩
theorem Hc.ops : ∀ (l : List Opn) {d : Dk}, Hc d → Hc (l.foldl opS d)
 | [], _, h => h
 | o :: r, _, h => Hc.ops r (h.op o)
end Go.Proofs.Ytkfoebbjncngjaa.V

