/- Plain facts. No condition. -/
import Derived.Test.YtkfoebbjncngjaaMBase
namespace Go.Proofs.Ytkfoebbjncngjaa.V
open Go Go.Proofs.Ytkfoebbjncngjaa.R
set_option linter.unusedVariables false
set_option linter.unusedSimpArgs false
theorem Ac {n : Int} (h0 : -9223372036854775808 ≤ n) (h1 : n < 9223372036854775808) : IntKind.i64.wrap n = n := by
 have e : IntKind.i64.wrap n = if n % 18446744073709551616 ≥ 9223372036854775808 then n % 18446744073709551616 - 18446744073709551616 else n % 18446744073709551616 := by
  simp [IntKind.wrap, IntKind.bits, IntKind.signed]
 rw [e]
 split <;> omega
theorem H6 {α : Type} (xs : List α) (i : Nat) (z : α) (h : i < xs.length) : xs.drop i = xs.getD i z :: xs.drop (i + 1) := by
 rw [List.drop_eq_getElem_cons h]
 simp [List.getD, List.getElem?_eq_getElem h]
theorem cLt {i n : Nat} (h : i < n) : decide ((i : Int) < nI n) = true := by simp [nI]; omega
theorem Aa4 {n : Nat} : decide ((n : Int) < nI n) = false := by simp [nI]
theorem Rr {i : Nat} : decide ((0 : Int) ≤ (i : Int)) = true := by simp
theorem wI {i : Nat} (h : i < 4611686018427387904) : IntKind.i64.wrap ((i : Int) + 1) = ((i + 1 : Nat) : Int) := by rw [Ac (by omega) (by omega)]; rfl
theorem Acb {α : Type} {f : α → α → Bool} : ∀ {xs ys : List α}, xs.length ≠ ys.length → eqL f xs ys = false
 | [], [], h => absurd rfl h
 | [], _ :: _, _ => rfl
 | _ :: _, [], _ => rfl
 | x :: xs, y :: ys, h => by
  simp only [eqL]
  rw [Acb (by simpa using h), Bool.and_false]
theorem Acc {α E : Type} {xs ys : List α} (z : α) (f : α → α → Bool) {g : Nat → Int → Option E} {ok bad : E} (hl : ys.length = xs.length)
  (hs : ∀ m (i : Nat), i < xs.length → g (m + 1) i = bif f (xs.getD i z) (ys.getD i z) then g m ((i + 1 : Nat) : Int) else some bad)
  (he : ∀ m, g (m + 1) (xs.length : Int) = some ok) :
  ∀ (m i : Nat), i ≤ xs.length → xs.length - i < m → g m i = some (bif eqL f (xs.drop i) (ys.drop i) then ok else bad)
 | 0, i, hi, hm => by omega
 | m + 1, i, hi, hm => by
  by_cases h : i < xs.length
  ·rw [hs m i h, H6 xs i z h, H6 ys i z (by omega)]
   simp only [eqL]
   cases f (xs.getD i z) (ys.getD i z) with
   | false => rfl
   | true =>
    rw [cond_true, Acc z f hl hs he m (i + 1) (by omega) (by omega), Bool.true_and]
  ·have : i = xs.length := by omega
   subst this
   have hy : ys.drop xs.length = [] := List.drop_eq_nil_of_le (by omega)
   rw [he, List.drop_length, hy]
   rfl
theorem Qg {E : Type} {n : Nat} {g : Nat → Int → Option E} {ok bad : E} (p : Nat → Bool)
  (hs : ∀ m (i : Nat), i < n → g (m + 1) i = bif p i then g m ((i + 1 : Nat) : Int) else some bad)
  (he : ∀ m, g (m + 1) (n : Int) = some ok) :
  ∀ (m i : Nat), i ≤ n → n - i < m → g m i = some (bif (List.range' i (n - i)).all p then ok else bad)
 | 0, i, hi, hm => by omega
 | m + 1, i, hi, hm => by
  by_cases h : i < n
  ·have e : n - i = (n - (i + 1)) + 1 := by omega
   rw [hs m i h, e, List.range'_succ, List.all_cons]
   cases p i with
   | false => rfl
   | true =>
    rw [cond_true, Qg p hs he m (i + 1) (by omega) (by omega), Bool.true_and]
  ·have : i = n := by omega
   subst this
   rw [he, Nat.sub_self]
   rfl
theorem Dw {a b : Bool} (h : (a && b) = true) : a = true ∧ b = true := by
 cases a <;> cases b <;> first | exact ⟨rfl, rfl⟩ | cases h
theorem Ajh (a b : Int) : (a != b) = !eqI a b := by
 unfold eqI
 by_cases h : a = b <;> simp [h, bne]
theorem Gb {α : Type} {r : List α} {i : Nat} {x z : α} (h : i < r.length) : (r.set i x).getD i z = x := by
 simp [List.getD, h]
theorem Ahp (n : Nat) (c : Nat) : decide (nI n > (c : Int)) = !decide (n ≤ c) := by
 by_cases q : n ≤ c
 ·have : ¬ (nI n > (c : Int)) := by simp [nI]; omega
  rw [decide_eq_true q, decide_eq_false this]; rfl
 ·have : nI n > (c : Int) := by simp [nI]; omega
  rw [decide_eq_false q, decide_eq_true this]; rfl
theorem Aiy (n c : Nat) : (nI n != (c : Int)) = !decide (n = c) := by
 by_cases q : n = c
 ·subst q; simp [nI]
 ·have : ¬ (nI n = (c : Int)) := by simp [nI]; omega
  rw [decide_eq_false q, Ajh]; unfold eqI; rw [decide_eq_false this]
theorem Vv {α : Type} {f : α → α → Bool} (h : ∀ x, f x x = true) : ∀ xs, eqL f xs xs = true
 | [] => rfl
 | x :: r => by simp only [eqL, h, Vv h r, Bool.and_self]
theorem Ae6 (x : Int) : eqI x x = true := decide_eq_true rfl
theorem Ae7 (x : Bool) : eqO x x = true := by cases x <;> rfl
theorem Ae8 (x : ByteArray) : eqS x x = true := by unfold eqS; simp
theorem Qh : ∀ (t : Ty) (x : t.D), eqB t x x = true
 | .int _, x => Ae6 x
 | .bool, x => Ae7 x
 | .str, x => Ae8 x
 | .sl t, xs => Vv (Qh t) xs
 | .unit, _ => rfl
 | .pair a b, x => by
  show (eqB a x.1 x.1 && eqB b x.2 x.2) = true
  rw [Qh, Qh]
  rfl
theorem Oy {α E F : Type} (f : E → F) (p : α → Bool) (out : α → E) (ok : E) : ∀ l, f (Ml p out ok l) = Ml p (fun x => f (out x)) (f ok) l
 | [] => rfl
 | x :: r => by
  simp only [Ml]
  cases p x with
  | true => rfl
  | false => exact Oy f p out ok r
theorem Vw {α E : Type} {xs : List α} (z : α) (p : α → Bool) (out : α → E) {g : Nat → Int → Option E} {ok : E}
  (hs : ∀ m (i : Nat), i < xs.length → g (m + 1) i = bif p (xs.getD i z) then some (out (xs.getD i z)) else g m ((i : Int) - 1))
  (he : ∀ m, g (m + 1) (-1) = some ok) :
  ∀ (m i : Nat), i ≤ xs.length → i < m → g m ((i : Int) - 1) = some (Ml p out ok (xs.take i).reverse)
 | 0, i, hi, hm => by omega
 | m + 1, 0, hi, hm => by
  rw [show ((0 : Nat) : Int) - 1 = -1 from rfl, he]
  rfl
 | m + 1, i + 1, hi, hm => by
  have e : (((i + 1 : Nat) : Int) - 1) = (i : Int) := by omega
  have h : i < xs.length := by omega
  have e2 : (xs.take (i + 1)).reverse = xs.getD i z :: (xs.take i).reverse := by
   rw [List.take_add_one, List.getElem?_eq_getElem h, Option.toList_some, List.reverse_append, List.reverse_singleton]
   simp [List.getD, List.getElem?_eq_getElem h]
  rw [e, hs m i h, e2]
  simp only [Ml]
  cases p (xs.getD i z) with
  | true => rfl
  | false => rw [cond_false, cond_false, Vw z p out hs he m i (by omega) (by omega)]
theorem Yo {α σ E : Type} {xs : List α} (z : α) (Inv : σ → Prop) (step : Nat → α → σ → σ) {g : Nat → Int → σ → Option E} {ok : σ → E}
  (hs : ∀ m (i : Nat) s, i < xs.length → Inv s → g (m + 1) i s = g m ((i + 1 : Nat) : Int) (step i (xs.getD i z) s))
  (hi : ∀ i s, i < xs.length → Inv s → Inv (step i (xs.getD i z) s))
  (he : ∀ m s, Inv s → g (m + 1) (xs.length : Int) s = some (ok s)) :
  ∀ (m i : Nat) s, i ≤ xs.length → xs.length - i < m → Inv s → g m i s = some (ok (Ym step i (xs.drop i) s))
 | 0, i, s, _, hm, _ => by omega
 | m + 1, i, s, hl, hm, hI => by
  by_cases h : i < xs.length
  ·rw [hs m i s h hI, Yo z Inv step hs hi he m (i + 1) _ (by omega) (by omega) (hi i s h hI), H6 xs i z h]
   rfl
  ·have : i = xs.length := by omega
   subst this
   rw [he _ _ hI, List.drop_length]
   rfl
theorem Rs {α σ : Type} (Inv : σ → Prop) (step : Nat → α → σ → σ) : ∀ (l : List α) (i : Nat) (s : σ), (∀ i s x, x ∈ l → Inv s → Inv (step i x s)) → Inv s → Inv (Ym step i l s)
 | [], _, _, _, h => h
 | x :: r, i, s, hs, h => Rs Inv step r (i + 1) _ (fun i s y hy => hs i s y (List.mem_cons_of_mem _ hy)) (hs i s x (by simp) h)
theorem n5 {α E : Type} {n : Nat} (f : Nat → α) {g : Nat → Int → List α → Option E} {ok : List α → E}
  (hs : ∀ m (i : Nat) (r : List α), i < n → r.length = i → g (m + 1) i r = g m ((i + 1 : Nat) : Int) (r ++ [f i]))
  (he : ∀ m r, g (m + 1) (n : Int) r = some (ok r)) :
  ∀ (m i : Nat) (r : List α), i ≤ n → n - i < m → r.length = i → g m i r = some (ok (r ++ (List.range' i (n - i)).map f))
 | 0, i, r, _, hm, _ => by omega
 | m + 1, i, r, hl, hm, hr => by
  by_cases h : i < n
  ·have e : n - i = (n - (i + 1)) + 1 := by omega
   rw [hs m i r h hr, n5 f hs he m (i + 1) _ (by omega) (by omega) (by simp [hr]), e, List.range'_succ, List.map_cons, List.append_assoc]
   rfl
  ·have : i = n := by omega
   subst this
   rw [he, Nat.sub_self]
   simp
theorem Sy {α : Type} (x : α) : ∀ (n s : Nat), (List.range' s n).map (fun _ => x) = List.replicate n x
 | 0, _ => rfl
 | n + 1, s => by rw [List.range'_succ, List.map_cons, Sy x n, List.replicate_succ]
theorem Yp {n : Nat} {p : Nat → Bool} (h : (List.range' 0 n).all p = true) (i : Nat) (hi : i < n) : p i = true := List.all_eq_true.1 h i (by simp [List.mem_range']; omega)
theorem D8 {s : ByteArray} {a b : Int} (h0 : 0 ≤ a) (h1 : a ≤ b) (h2 : b ≤ (s.size : Int)) : (Ad s a b).size = (b - a).toNat := by
 unfold Ad
 rw [ByteArray.size_extract]
 omega
structure Er (d : Dk) : Prop where
 n8 : 8 ≤ d.1.length
 n200 : d.1.length ≤ 200
 p300 : d.2.1.length ≤ 300
 sec : ∀ i, i < d.1.length → (d.1.getD i z0).size = 64
 pen : ∀ i, i < d.2.1.length → 0 ≤ (d.2.1.getD i zW).1 ∧ (d.2.1.getD i zW).1 < (d.1.length : Int) ∧ (d.2.1.getD i zW).2.1.size = 64
theorem Acd {d : Dk} (h : Dv d = true) : Er d := by
 obtain ⟨h1, h2⟩ := Dw h
 obtain ⟨h2, h3⟩ := Dw h2
 obtain ⟨h3, h4⟩ := Dw h3
 obtain ⟨k1, k2⟩ := Dw h1
 have k1 := of_decide_eq_true k1
 have k2 := of_decide_eq_true k2
 refine ⟨by omega, by omega, of_decide_eq_true h2, fun i hi => of_decide_eq_true (Yp h3 i hi), fun i hi => ?_⟩
 obtain ⟨q1, q2⟩ := Dw (Yp h4 i hi)
 obtain ⟨q2, q3⟩ := Dw q2
 exact ⟨of_decide_eq_true q1, of_decide_eq_true q2, of_decide_eq_true q3⟩
theorem getD_set_ne {α : Type} {r : List α} {i j : Nat} {x z : α} (h : i ≠ j) : (r.set i x).getD j z = r.getD j z := by
 simp [List.getD, List.getElem?_set_ne h]
theorem Z6 (sec : List ByteArray) (ws : List Wr) : (Yn sec ws).length = sec.length :=
 Rs (fun s => s.length = sec.length) _ ws 0 sec (fun i s w _ h => by rw [List.length_set]; exact h) rfl
def n6 (n : Nat) (s : List ByteArray) : Prop := s.length = n ∧ ∀ i, i < n → (s.getD i z0).size = 64
theorem n6.set {n : Nat} {s : List ByteArray} (h : n6 n s) {j : Nat} {x : ByteArray} (hx : x.size = 64) : n6 n (s.set j x) := by
 refine ⟨by rw [List.length_set]; exact h.1, fun i hi => ?_⟩
 by_cases q : j = i
 ·subst q
  rw [Gb (by rw [h.1]; exact hi)]
  exact hx
 ·rw [getD_set_ne q]
  exact h.2 i hi
theorem Sz {α β : Type} {m : Option α} {f : α → Option β} {a : α} {r : Option β} (h : m = some a) (h2 : f a = r) : m.bind f = r := by
 rw [h]; exact h2
theorem n7 {α : Type} {l : List α} {z : α} {P : α → Prop} (h : ∀ i, i < l.length → P (l.getD i z)) : ∀ x ∈ l, P x := by
 intro x hx
 obtain ⟨i, hi, rfl⟩ := List.mem_iff_getElem.1 hx
 have := h i hi
 rw [List.getD_eq_getElem?_getD, List.getElem?_eq_getElem hi] at this
 exact this
theorem N1 (a b : List Int) : strOfNums (a ++ b) = strOfNums a ++ strOfNums b := by
 unfold strOfNums
 rw [List.map_append]
 apply ByteArray.ext
 simp
theorem B1 (a : List Int) : (strOfNums a).size = a.length := by
 unfold strOfNums
 show (List.toArray _).size = _
 simp
theorem Mo (v : Int) : ∀ n, (G0 v n).length = n
 | 0 => rfl
 | n + 1 => by simp only [G0, List.length_append, Mo (v / 256) n, List.length_singleton]
theorem Fb (v : Int) (n : Nat) : (Ch v n).size = n := by unfold Ch; rw [B1, Mo]
theorem n9 (v : Int) (out : ByteArray) : Ch v 0 ++ out = out := by
 apply ByteArray.ext
 simp [Ch, G0, strOfNums]
theorem Ae9 (s : ByteArray) : s ++ ByteArray.mk #[] = s := by
 apply ByteArray.ext
 simp
theorem o5 (v : Int) (k : Nat) : Ch v (k + 1) = Ch (v / 256) k ++ strOfNums [v % 256] := by
 unfold Ch
 rw [← N1]
 rfl
theorem Ru (s : ByteArray) (i : Int) : 0 ≤ Av s i ∧ Av s i < 256 := by
 unfold Av
 have := (s.data.toList.getD i.toNat 0).toNat_lt
 omega
theorem Agu : ∀ i : Nat, i < 7 → (256 : Int) ^ i ≤ 281474976710656 := by decide
theorem Agv (s : ByteArray) (i : Nat) {k : Nat} {v : Int} (hi : i + (k + 1) = s.size) (hs : i < 7) (h0 : 0 ≤ v) (h1 : v < 256 ^ i) :
  0 ≤ v * 256 + Av s i ∧ v * 256 + Av s i < 256 ^ (i + 1) ∧ IntKind.wrap IntKind.i64 (nI (BitVec.toNat (BitVec.ofInt 64 (IntKind.wrap IntKind.i64 (v * 2 ^ min (Int.toNat 8) 64)) ||| BitVec.ofInt 64 (IntKind.wrap IntKind.i64 (Av s i))))) = v * 256 + Av s i := by
 obtain ⟨b0, b1⟩ := Ru s i
 have hp : (256 : Int) ^ (i + 1) = 256 ^ i * 256 := Int.pow_succ _ _
 have hle : (256 : Int) ^ i ≤ 281474976710656 := Agu i hs
 refine ⟨by omega, by omega, ?_⟩
 have e8 : (v * 2 ^ min (Int.toNat 8) 64 : Int) = v * 256 := rfl
 rw [e8, Ac (n := v * 256) (by omega) (by omega), Ac (n := Av s i) (by omega) (by omega)]
 obtain ⟨n, rfl⟩ : ∃ n : Nat, v = (n : Int) := ⟨v.toNat, by omega⟩
 obtain ⟨b, hb⟩ : ∃ b : Nat, Av s i = (b : Int) := ⟨(Av s i).toNat, by omega⟩
 rw [hb] at b0 b1 ⊢
 have e1 : BitVec.ofInt 64 ((n : Int) * 256) = BitVec.ofNat 64 (n * 256) := by
  rw [show ((n : Int) * 256) = ((n * 256 : Nat) : Int) by omega]; exact BitVec.ofInt_natCast _ _
 have e2 : BitVec.ofInt 64 (b : Int) = BitVec.ofNat 64 b := BitVec.ofInt_natCast _ _
 rw [e1, e2, BitVec.toNat_or, BitVec.toNat_ofNat, BitVec.toNat_ofNat, Nat.mod_eq_of_lt (by omega), Nat.mod_eq_of_lt (by omega)]
 have e3 : n * 256 ||| b = n * 256 + b := by
  have := Nat.shiftLeft_add_eq_or_of_lt (i := 8) (b := b) (by omega) n
  rw [Nat.shiftLeft_eq] at this
  exact this.symm
 rw [e3]
 exact Ac (by simp only [nI]; omega) (by simp only [nI]; omega)
theorem Qi {σ ρ : Type} (n : Nat) (Inv : Nat → σ → Prop) (step : Nat → σ → σ) {g : Nat → Nat → σ → Option ρ} {ok : σ → ρ}
  (hs : ∀ m i s, i < n → Inv i s → g (m + 1) i s = g m (i + 1) (step i s)) (he : ∀ m s, Inv n s → g (m + 1) n s = some (ok s))
  (hI : ∀ i s, i < n → Inv i s → Inv (i + 1) (step i s)) : ∀ k m i s, i + k = n → k < m → Inv i s → g m i s = some (ok (iter step k i s))
 | 0, m + 1, i, s, hi, _, h => by
  obtain rfl : i = n := by omega
  exact he m s h
 | k + 1, m + 1, i, s, hi, hm, h => by
  rw [hs m i s (by omega) h]
  exact Qi n Inv step hs he hI k m (i + 1) _ (by omega) (by omega) (hI i s (by omega) h)
theorem o6 {σ : Type} (Inv : σ → Prop) (f : Nat → σ → σ) (hf : ∀ i s, Inv s → Inv (f i s)) : ∀ k i s, Inv s → Inv (iter f k i s)
 | 0, _, _, h => h
 | k + 1, i, s, h => o6 Inv f hf k (i + 1) _ (hf i s h)
theorem wid (w : Int) : (bif decide (w ≥ 1) then some ((decide (w ≤ 8), ()), ()) else some ((false, ()), ())) = (some ((Cb w 1 8, ()), ()) : Option ((Bool × Unit) × Unit)) := by
 unfold Cb
 by_cases h : 1 ≤ w
 ·rw [decide_eq_true (show w ≥ 1 from h)]; rfl
 ·rw [decide_eq_false (show ¬ w ≥ 1 from h)]; rfl
theorem Ahq (k : Int) : IntKind.wrap IntKind.u64 k = k % 18446744073709551616 := by
 simp [IntKind.wrap, IntKind.bits, IntKind.signed]
theorem Aiz (k : Int) : IntKind.i64.wrap k = if k % 18446744073709551616 ≥ 9223372036854775808 then k % 18446744073709551616 - 18446744073709551616 else k % 18446744073709551616 := by
 simp [IntKind.wrap, IntKind.bits, IntKind.signed]
def U64 (h : Int) : Prop := 0 ≤ h ∧ h < 18446744073709551616
theorem Ace (s : ByteArray) (k i : Nat) {h : Int} (hh : U64 h) : U64 (Rp s k i h) :=
 o6 U64 _ (fun i s _ => by unfold Mm; rw [Ahq]; exact ⟨Int.emod_nonneg _ (by decide), Int.emod_lt_of_pos _ (by decide)⟩) k i h hh
theorem Vx : ∀ (n : Nat) (v c : Int), G0 (v + 256 ^ n * c) n = G0 v n
 | 0, _, _ => rfl
 | n + 1, v, c => by
  have e : v + 256 ^ (n + 1) * c = v + 256 * (256 ^ n * c) := by rw [Int.pow_succ, Int.mul_comm (256 ^ n) 256, Int.mul_assoc]
  simp only [G0]
  rw [e]
  have e1 : (v + 256 * (256 ^ n * c)) / 256 = v / 256 + 256 ^ n * c := by omega
  have e2 : (v + 256 * (256 ^ n * c)) % 256 = v % 256 := by omega
  rw [e1, e2, Vx n]
theorem Yq (n : Nat) : ∀ (w : Nat) (v : Int), (G0 v (n + w)).drop n = G0 v w
 | 0, v => by rw [List.drop_eq_nil_of_le (by rw [Mo]; omega)]; rfl
 | w + 1, v => by
  show (G0 (v / 256) (n + w) ++ [v % 256]).drop n = _
  rw [List.drop_append_of_le_length (by rw [Mo]; omega), Yq n w]
  rfl
theorem Afa (l : List Int) (a : Nat) : Ad (strOfNums l) (a : Int) (nI (strOfNums l).size) = strOfNums (l.drop a) := by
 unfold Ad
 rw [B1]
 apply ByteArray.ext
 simp [strOfNums, nI, List.map_drop]
 exact List.take_of_length_le (by simp)
theorem Agw {h w : Int} (hh : U64 h) (h1 : 1 ≤ w) (h8 : w ≤ 8) : Ad (Ch (IntKind.wrap IntKind.i64 h) (Int.toNat 8)) (8 - w) (nI (ByteArray.size (Ch (IntKind.wrap IntKind.i64 h) (Int.toNat 8)))) = Ch h w.toNat := by
 obtain ⟨n, rfl⟩ : ∃ n : Nat, w = (n : Int) := ⟨w.toNat, by omega⟩
 have e8 : Int.toNat 8 = (8 - n) + n := by omega
 have e : (8 - (n : Int)) = ((8 - n : Nat) : Int) := by omega
 rw [e]
 unfold Ch
 have hd : G0 (IntKind.wrap IntKind.i64 h) (Int.toNat 8) = G0 h (Int.toNat 8) := by
  by_cases q : h < 9223372036854775808
  ·rw [Ac (by have := hh.1; omega) q]
  ·have : IntKind.wrap IntKind.i64 h = h + 256 ^ 8 * (-1) := by
    have h6 : (256 : Int) ^ 8 = 18446744073709551616 := by decide
    have := hh.2
    rw [h6]
    rw [Aiz]
    split <;> omega
   rw [this]
   exact Vx 8 h (-1)
 rw [hd, Afa, e8, Yq]
 rfl
theorem Kb {s : ByteArray} {w : Int} (h : Cb w 1 8 = true) : (Qf s w).size = w.toNat := by
 unfold Qf; rw [h]; exact Fb _ _
theorem Aji : ∀ n : Nat, n ≤ 64 → Ju (ByteArray.mk #[0]) (n : Int) = some (strOfNums (List.replicate n 0)) := by decide +kernel
theorem Ik {p : Pg} {w : Int} (h : Bk p w = true) : Cb w 1 8 = true ∧ 1 ≤ w ∧ w ≤ 8 ∧ (p.2.2.2.1.size : Int) ≤ 56 - w := by
 obtain ⟨h1, h2⟩ := Dw h
 obtain ⟨_, h2⟩ := Dw h2
 obtain ⟨_, h2⟩ := Dw h2
 obtain ⟨_, h2⟩ := Dw h2
 exact ⟨h1, of_decide_eq_true (Dw h1).1, of_decide_eq_true (Dw h1).2, of_decide_eq_true (Dw h2).1⟩
theorem Ei {v lo hi : Int} (h : Cb v lo hi = true) : lo ≤ v ∧ v ≤ hi := ⟨of_decide_eq_true (Dw h).1, of_decide_eq_true (Dw h).2⟩
theorem Vy {p : Pg} {w : Int} (h : Bk p w = true) : (1 ≤ p.1 ∧ p.1 ≤ 4) ∧ (1 ≤ p.2.1 ∧ p.2.1 ≤ 60000) ∧ (1 ≤ p.2.2.1 ∧ p.2.2.1 ≤ 1000000000) := by
 obtain ⟨_, h2⟩ := Dw h
 obtain ⟨h3, h2⟩ := Dw h2
 obtain ⟨h4, h2⟩ := Dw h2
 obtain ⟨h5, h2⟩ := Dw h2
 exact ⟨Ei h3, Ei h4, Ei h5⟩
theorem Afb (x lo hi : Int) {ρ : Type} (f t : ρ) : (bif decide (x < lo) then f else bif decide (x > hi) then f else t) = bif Cb x lo hi then t else f := by
 unfold Cb
 by_cases h1 : x < lo
 ·rw [decide_eq_true h1, decide_eq_false (show ¬ lo ≤ x by omega)]; rfl
 ·rw [decide_eq_false h1, decide_eq_true (show lo ≤ x by omega)]
  by_cases h2 : x > hi
  ·rw [decide_eq_true h2, decide_eq_false (show ¬ x ≤ hi by omega)]; rfl
  ·rw [decide_eq_false h2, decide_eq_true (show x ≤ hi by omega)]; rfl
theorem o7 {α β : Type} (f : α → List β) (z : α) (xs : List α) : ∀ k i r, i + k = xs.length → iter (fun i r => r ++ f (xs.getD i z)) k i r = r ++ ((xs.drop i).map f).flatten
 | 0, i, r, h => by
  rw [List.drop_eq_nil_of_le (by omega)]
  simp [iter]
 | k + 1, i, r, h => by
  rw [H6 xs i z (by omega)]
  simp only [iter, List.map_cons, List.flatten_cons]
  rw [o7 f z xs k (i + 1) _ (by omega), List.append_assoc]
theorem F1 (a b : ByteArray) : Ah (a ++ b) = Ah a ++ Ah b := by
 unfold Ah
 simp
theorem Dg (s : ByteArray) : (Ah s).length = s.size := by
 unfold Ah
 rw [List.length_map]
 rfl
theorem Vz (l : List Int) (h : Cz l = true) : Ah (strOfNums l) = l := by
 unfold Ah strOfNums
 show (List.map _ (List.map _ l)) = l
 rw [List.map_map]
 conv => rhs; rw [← List.map_id l]
 refine List.map_congr_left fun x hx => ?_
 have := List.all_eq_true.1 h x hx
 obtain ⟨h1, h2⟩ := Dw this
 have h1 := of_decide_eq_true h1
 have h2 := of_decide_eq_true h2
 show (((UInt8.ofNat x.toNat).toNat : Nat) : Int) = x
 rw [UInt8.toNat_ofNat']
 rw [Nat.mod_eq_of_lt (by omega)]
 omega
theorem Yr (s : ByteArray) : Cz (Ah s) = true := by
 refine List.all_eq_true.2 fun x hx => ?_
 obtain ⟨b, _, rfl⟩ := List.mem_map.1 hx
 have := b.toNat_lt
 show (decide (0 ≤ (b.toNat : Int)) && decide ((b.toNat : Int) < 256)) = true
 rw [decide_eq_true (by omega), decide_eq_true (by omega)]
 rfl
theorem E1 (a b : List Int) : Cz (a ++ b) = (Cz a && Cz b) := List.all_append
theorem Acf (n : Nat) (h : n < 256) : Cz [nI n] = true := by
 show ((decide (0 ≤ nI n) && decide (nI n < 256)) && true) = true
 rw [decide_eq_true (by simp only [nI]; omega), decide_eq_true (by simp only [nI]; omega)]
 rfl
theorem Ahr (n : Nat) (h : n < 256) : IntKind.wrap IntKind.u8 (nI n) = nI n := by
 show nI n % 256 = nI n
 simp only [nI]; omega
theorem Ys {c : Chg} (h : Mk c = true) : 1 ≤ c.1.size ∧ c.1.size ≤ 20 ∧ c.2.1.size ≤ 100 := by
 obtain ⟨h1, h2⟩ := Dw h
 obtain ⟨h2, _⟩ := Dw h2
 have := Ei h1
 have := of_decide_eq_true h2
 omega
theorem S0 {c : Chg} (h : Mk c = true) : Cz (Z5 c) = true ∧ (Z5 c).length ≤ 200 := by
 obtain ⟨k1, k2, k3⟩ := Ys h
 unfold Z5
 have a1 := Acf c.1.size (by omega)
 have a2 := Acf c.2.1.size (by omega)
 have b1 : Cz [1, nI c.1.size] = true := by
  rw [show [1, nI c.1.size] = [1] ++ [nI c.1.size] from rfl, E1, a1]; rfl
 have b0 : Cz [0, nI c.1.size] = true := by
  rw [show [0, nI c.1.size] = [0] ++ [nI c.1.size] from rfl, E1, a1]; rfl
 cases c.2.2.1
 ·simp only [cond_false, E1, b0, a2, Yr, List.length_append, Dg, List.length_cons, List.length_nil]
  exact ⟨rfl, by omega⟩
 ·simp only [cond_true, E1, b1, Yr, List.length_append, Dg, List.length_cons, List.length_nil]
  exact ⟨rfl, by omega⟩
theorem N2 {b : List Chg} (h : D7 b = true) : b.length ≤ 20 ∧ ∀ i, i < b.length → Mk (b.getD i zC) = true := by
 obtain ⟨h1, h2⟩ := Dw h
 refine ⟨by have := (Ei h1).2; omega, fun i hi => ?_⟩
 exact List.all_eq_true.1 h2 i (List.mem_range'_1.2 ⟨by omega, by omega⟩)
def Acg (i : Nat) (r : List Int) : Prop := r.length ≤ 200 * i ∧ Cz r = true
theorem Acg.step {i : Nat} {r : List Int} {c : Chg} (h : Acg i r) (hc : Mk c = true) : Acg (i + 1) (r ++ Z5 c) := by
 obtain ⟨q1, q2⟩ := S0 hc
 exact ⟨by rw [List.length_append]; have := h.1; omega, by rw [E1, h.2, q1]; rfl⟩
theorem Rv {a b : ByteArray} (h : Ah a = Ah b) : a = b := by
 apply ByteArray.ext
 apply Array.ext'
 unfold Ah at h
 exact (List.map_inj_right (fun x y e => UInt8.toNat_inj.1 (by omega))).1 h
theorem Nk (s : ByteArray) (a b : Nat) : Ah (Ad s a b) = ((Ah s).drop a).take (b - a) := by
 unfold Ah Ad
 simp [List.map_drop, List.map_take]
theorem Ai0 {a b : ByteArray} (h : (a.toList == b.toList) = true) : a = b := by
 have h := eq_of_beq h
 rw [ByteArray.toList_eq, ByteArray.toList_eq] at h
 apply ByteArray.ext
 exact Array.ext' h
theorem Add {b : List Chg} (h : D7 b = true) : 1 ≤ b.length ∧ b.length ≤ 20 ∧ ∀ c ∈ b, Mk c = true := by
 obtain ⟨h1, h2⟩ := N2 h
 refine ⟨by have := (Ei (Dw h).1).1; omega, h1, n7 (z := zC) (P := fun c => Mk c = true) h2⟩
def Agx (v b : Int) : Int := v * 256 + b
theorem La (s : ByteArray) (i : Nat) : Av s i = (Ah s).getD i 0 := by
 unfold Av Ah
 simp only [Int.toNat_natCast, List.getD_eq_getElem?_getD, List.getElem?_map]
 cases s.data.toList[i]? <;> rfl
theorem o8 (s : ByteArray) : ∀ k i v, i + k = s.size → Aca s k i v = ((Ah s).drop i).foldl Agx v
 | 0, i, v, h => by rw [List.drop_of_length_le (by rw [Dg]; omega)]; rfl
 | k + 1, i, v, h => by
  rw [H6 (Ah s) i 0 (by rw [Dg]; omega), List.foldl_cons, ← La]
  exact o8 s k (i + 1) _ (by omega)
theorem Agy (s : ByteArray) : m9 s = (Ah s).foldl Agx 0 := by
 unfold m9
 rw [o8 s s.size 0 0 (by omega), List.drop_zero]
theorem o9 : ∀ (n : Nat) (v : Int), 0 ≤ v → v < 256 ^ n → (G0 v n).foldl Agx 0 = v
 | 0, v, h0, h1 => by
  have : v < 1 := h1
  show (0 : Int) = v
  omega
 | n + 1, v, h0, h1 => by
  have hp : (256 : Int) ^ (n + 1) = 256 ^ n * 256 := Int.pow_succ _ _
  simp only [G0, List.foldl_append, List.foldl_cons, List.foldl_nil]
  rw [o9 n (v / 256) (by omega) (by omega)]
  unfold Agx
  omega
theorem p5 : ∀ (n : Nat) (v : Int), Cz (G0 v n) = true
 | 0, _ => rfl
 | n + 1, v => by
  simp only [G0, E1, p5 n]
  show (true && ((decide (0 ≤ v % 256) && decide (v % 256 < 256)) && true)) = true
  rw [decide_eq_true (by omega), decide_eq_true (by omega)]
  rfl
theorem G1 (v : Int) (n : Nat) : Ah (Ch v n) = G0 v n := Vz _ (p5 n v)
theorem p6 {v : Int} {n : Nat} (h0 : 0 ≤ v) (h1 : v < 256 ^ n) : m9 (Ch v n) = v := by rw [Agy, G1, o9 n v h0 h1]
theorem Ade (n : Nat) : Cz (List.replicate n 0) = true := List.all_eq_true.2 fun x hx => by
 rw [List.eq_of_mem_replicate hx]; rfl
theorem Oz (p : Pg) (w : Int) : Ah (Cr p w) = G0 p.1 1 ++ (G0 p.2.1 2 ++ (G0 p.2.2.1 4 ++ (G0 p.2.2.2.1.size 1 ++ (Ah p.2.2.2.1 ++ List.replicate (56 - w - p.2.2.2.1.size).toNat 0)))) := by
 unfold Cr
 rw [F1, F1, F1, F1, F1, G1, G1, G1, G1, Vz _ (Ade _)]
 simp only [List.append_assoc]
theorem Yt {p : Pg} {w : Int} (h : Bk p w = true) : (Cr p w).size = (64 - w).toNat := by
 obtain ⟨hw, k1, k2, kp⟩ := Ik h
 rw [← Dg, Oz]
 simp only [List.length_append, Mo, Dg, List.length_replicate]
 omega
theorem V0 {p : Pg} {w : Int} (h : Bk p w = true) : (A8 p w).size = 64 ∧ Ad (A8 p w) w (nI (A8 p w).size) = Cr p w := by
 obtain ⟨hw, k1, k2, kp⟩ := Ik h
 have e : A8 p w = Qf (Cr p w) w ++ Cr p w := by unfold A8; rw [h]; rfl
 have hs : (A8 p w).size = 64 := by rw [e, ByteArray.size_append, Kb hw, Yt h]; omega
 refine ⟨hs, ?_⟩
 obtain ⟨n, rfl⟩ : ∃ n : Nat, w = (n : Int) := ⟨w.toNat, by omega⟩
 apply Rv
 have q : Ad (A8 p n) n (nI (A8 p n).size) = Ad (A8 p n) (n : Nat) ((64 : Nat) : Int) := by rw [hs] <;> rfl
 rw [q, Nk, e, F1, List.drop_append_of_le_length (by rw [Dg, Kb hw]; omega), List.drop_of_length_le (by rw [Dg, Kb hw]; omega), List.nil_append, List.take_of_length_le (by rw [Dg, Yt h]; omega)]
theorem Afc {p : Pg} {w : Int} (h : Bk p w = true) : Ae2 (Cr p w) = p := by
 obtain ⟨hw, k1, k2, kp⟩ := Ik h
 obtain ⟨r1, r2, r3⟩ := Vy h
 have hb := Oz p w
 have d1 : ∀ v : Int, G0 v 1 = [v % 256] := fun v => rfl
 have d2 : ∀ v : Int, G0 v 2 = [v / 256 % 256, v % 256] := fun v => rfl
 have d4 : ∀ v : Int, G0 v 4 = [v / 256 / 256 / 256 % 256, v / 256 / 256 % 256, v / 256 % 256, v % 256] := fun v => rfl
 have b7 : Av (Cr p w) 7 = p.2.2.2.1.size := by
  have := La (Cr p w) 7
  rw [hb, d1, d2, d4, d1] at this
  refine this.trans ?_
  show (p.2.2.2.1.size : Int) % 256 = _
  omega
 have b0 : Av (Cr p w) 0 = p.1 := by
  have := La (Cr p w) 0
  rw [hb, d1] at this
  refine this.trans ?_
  show p.1 % 256 = _
  omega
 have c1 : Ad (Cr p w) 1 3 = Ch p.2.1 2 := by
  apply Rv
  have := Nk (Cr p w) 1 3
  rw [hb, d1, d2, d4, d1] at this
  exact this.trans (by rw [G1, d2]; rfl)
 have c3 : Ad (Cr p w) 3 7 = Ch p.2.2.1 4 := by
  apply Rv
  have := Nk (Cr p w) 3 7
  rw [hb, d1, d2, d4, d1] at this
  exact this.trans (by rw [G1, d4]; rfl)
 have c8 : Ad (Cr p w) 8 (8 + (p.2.2.2.1.size : Int)) = p.2.2.2.1 := by
  apply Rv
  have := Nk (Cr p w) 8 (8 + p.2.2.2.1.size)
  rw [hb, d1, d2, d4, d1] at this
  refine this.trans ?_
  show List.take (8 + p.2.2.2.1.size - 8) (Ah p.2.2.2.1 ++ _) = _
  rw [show 8 + p.2.2.2.1.size - 8 = p.2.2.2.1.size by omega, List.take_append_of_le_length (by rw [Dg]; omega), List.take_of_length_le (by rw [Dg]; omega)]
 have p2 : (256 : Int) ^ 2 = 65536 := by decide
 have p4 : (256 : Int) ^ 4 = 4294967296 := by decide
 unfold Ae2
 rw [b7, b0, c1, c3, c8, p6 (by omega) (by omega), p6 (by omega) (by omega)]
theorem H7 {p : Pg} {w : Int} (h : Bk p w = true) : Je (A8 p w) w = (p, true) := by
 obtain ⟨hw, k1, k2, kp⟩ := Ik h
 obtain ⟨hs, ht⟩ := V0 h
 have hr := Afc h
 have b7 : Av (Cr p w) 7 = p.2.2.2.1.size := by
  have := La (Cr p w) 7
  rw [Oz] at this
  refine this.trans ?_
  show (p.2.2.2.1.size : Int) % 256 = _
  omega
 unfold Je Adc
 rw [ht, hr, hw, hs, b7, beq_self_eq_true, decide_eq_false (by omega)]
 rfl
theorem V1 {s : ByteArray} {w : Int} {p : Pg} (h : Je s w = (p, true)) : s.size = 64 ∧ Cb w 1 8 = true ∧ A8 p w = s ∧ Bk p w = true := by
 unfold Je at h
 cases h1 : (nI s.size != 64) with
 | true => rw [h1] at h; cases h
 | false =>
  cases h2 : Cb w 1 8 with
  | false => rw [h1, h2] at h; cases h
  | true =>
   cases h3 : decide (Av (Ad s w (nI s.size)) 7 > 56 - w) with
   | true => rw [h1, h2, h3] at h; cases h
   | false =>
    cases h4 : ((A8 (Adc s w) w).toList == s.toList) with
    | false => rw [h1, h2, h3, h4] at h; cases h
    | true =>
     rw [h1, h2, h3, h4] at h
     have e : Adc s w = p := congrArg Prod.fst h
     rw [e] at h4
     have e2 := Ai0 h4
     have hs : s.size = 64 := by
      by_cases q : nI s.size = 64
      ·simp only [nI] at q; omega
      ·rw [(bne_iff_ne).2 q] at h1; cases h1
     refine ⟨hs, rfl, e2, ?_⟩
     cases hp : Bk p w with
     | true => rfl
     | false =>
      unfold A8 at e2
      rw [hp] at e2
      subst e2
      cases hs
theorem Adf {a n : Int} (hn : 0 < n) : (a + n - 1) / n = 1 + (a - n + n - 1) / n := by
 have : a + n - 1 = (a - n + n - 1) + n * 1 := by omega
 rw [this, Int.add_mul_ediv_left _ _ (by omega)]
 omega
theorem Yu (n : Nat) (hn : 1 ≤ n) : ∀ (f : Nat) (s : ByteArray), s.size ≤ f → ((Bb n f s).length : Int) = if ((s.size : Int) + n - 1) / n > 1 then ((s.size : Int) + n - 1) / n else 1
 | 0, s, h => by
  have h0 : s.size = 0 := by omega
  simp only [Bb, h0]
  have : (((0 : Nat) : Int) + n - 1) / n = 0 := Int.ediv_eq_zero_of_lt (by omega) (by omega)
  exact (if_neg (by rw [this]; decide)).symm
 | f + 1, s, h => by
  by_cases q : s.size > n
  ·have hc : (Ad s n (nI s.size)).size = s.size - n := by rw [D8 (by omega) (by simp only [nI]; omega) (by simp [nI])]; simp only [nI]; omega
   simp only [Bb, if_pos q, List.length_cons]
   have ih := Yu n hn f (Ad s n (nI s.size)) (by omega)
   rw [hc] at ih
   have e := Adf (a := s.size) (n := n) (by omega)
   have e2 : ((s.size - n : Nat) : Int) = (s.size : Int) - n := by omega
   rw [e2] at ih
   have hp : 1 ≤ ((s.size : Int) - n + n - 1) / n := by
    rw [Int.le_ediv_iff_mul_le (by omega)]
    omega
   rw [e]
   generalize ((s.size : Int) - n + n - 1) / n = y at *
   rw [if_pos (by omega)]
   split at ih <;> omega
  ·simp only [Bb, if_neg q]
   have : ((s.size : Int) + n - 1) / n < 2 := by
    rw [Int.ediv_lt_iff_lt_mul (by omega)]
    omega
   exact (if_neg (by omega)).symm
theorem G2 {s : ByteArray} {w : Int} (hw : Cb w 1 8 = true) : ((Ag s w).length : Int) = if ((s.size : Int) + (56 - w) - 1) / (56 - w) > 1 then ((s.size : Int) + (56 - w) - 1) / (56 - w) else 1 := by
 obtain ⟨h1, h2⟩ := Ei hw
 obtain ⟨n, hn⟩ : ∃ n : Nat, 56 - w = (n : Int) := ⟨(56 - w).toNat, by omega⟩
 unfold Ag
 rw [hn, Int.toNat_natCast]
 exact Yu n (by omega) s.size s (Nat.le_refl _)
theorem Jf (life w : Int) : ∀ (L : List ByteArray) (k : Int), Ep life w k L = (List.range' 0 L.length).map (fun i => A8 ((if i + 1 = L.length then 2 else 1), life, k + (i : Int), L.getD i z0, ()) w)
 | [], k => rfl
 | [p], k => by
  show [A8 (2, life, k, p, ()) w] = [A8 ((if 0 + 1 = 1 then 2 else 1), life, k + ((0 : Nat) : Int), p, ()) w]
  rw [if_pos rfl, show k + ((0 : Nat) : Int) = k by omega]
 | p :: q :: r, k => by
  have ih := Jf life w (q :: r) (k + 1)
  show A8 (1, life, k, p, ()) w :: Ep life w (k + 1) (q :: r) = (List.range' 0 ((q :: r).length + 1)).map (fun i => A8 ((if i + 1 = (q :: r).length + 1 then 2 else 1), life, k + (i : Int), (p :: q :: r).getD i z0, ()) w)
  rw [ih, List.range'_succ, List.map_cons]
  congr 1
  ·rw [if_neg (by rw [List.length_cons]; omega), show k + ((0 : Nat) : Int) = k by omega]
   rfl
  ·rw [show List.range' (0 + 1) (q :: r).length = List.map (fun x => 1 + x) (List.range' 0 (q :: r).length) by rw [List.map_add_range'], List.map_map]
   refine List.map_congr_left fun i _ => ?_
   show _ = A8 ((if 1 + i + 1 = (q :: r).length + 1 then 2 else 1), life, k + ((1 + i : Nat) : Int), (p :: q :: r).getD (1 + i) z0, ()) w
   rw [show k + ((1 + i : Nat) : Int) = k + 1 + (i : Int) by omega, show 1 + i = i + 1 by omega]
   by_cases e : i + 1 = (q :: r).length
   ·rw [if_pos e, if_pos (by omega)]; rfl
   ·rw [if_neg e, if_neg (by omega)]; rfl
theorem Yv {β : Type} (g : Nat → β) : ∀ k i (r : List β), iter (fun i r => r ++ [g i]) k i r = r ++ (List.range' i k).map g
 | 0, i, r => by simp [iter]
 | k + 1, i, r => by
  simp only [iter]
  rw [Yv g k (i + 1), List.range'_succ, List.map_cons, List.append_assoc]
  rfl
theorem Aa5 (p : Pg) (w : Int) : (A8 p w).size ≤ 64 := by
 cases h : Bk p w with
 | true => rw [(V0 h).1]; exact Nat.le_refl _
 | false => unfold A8; rw [h]; show (ByteArray.mk #[]).size ≤ 64; decide
theorem Lb (life w : Int) : ∀ (L : List ByteArray) (k : Int), (Ep life w k L).length = L.length ∧ ∀ x ∈ Ep life w k L, x.size ≤ 64 := by
 intro L k
 rw [Jf]
 refine ⟨by simp, fun x hx => ?_⟩
 obtain ⟨i, _, rfl⟩ := List.mem_map.1 hx
 exact Aa5 _ _
theorem Er.sync {d : Dk} (h : Er d) : Er (Aho d) := by
 have hl := Z6 d.1 d.2.1
 have hs : n6 d.1.length (Yn d.1 d.2.1) := Rs (n6 d.1.length) _ d.2.1 0 d.1 (fun i s w hw hI => hI.set (n7 (z := zW) (P := fun w : Wr => w.2.1.size = 64) (fun i hi => (h.pen i hi).2.2) w hw)) ⟨rfl, h.sec⟩
 exact ⟨by show 8 ≤ (Yn d.1 d.2.1).length; rw [hl]; exact h.n8, by show (Yn d.1 d.2.1).length ≤ 200; rw [hl]; exact h.n200, by show (0 : Nat) ≤ 300; omega, fun i hi => hs.2 i (by rw [← hl]; exact hi), fun i hi => absurd hi (by show ¬ i < 0; omega)⟩
theorem Er.op {d : Dk} (h : Er d) (o : Opn) : Er (opS d o) := by
 unfold opS
 cases o.1 with
 | true => exact h.sync
 | false =>
  cases hc : m8 d.1.length (o.2.1, o.2.2.1, ()) && decide (d.2.1.length < 300) with
  | false => exact h
  | true =>
   obtain ⟨h1, h2⟩ := Dw hc
   obtain ⟨q1, q2⟩ := Dw h1
   obtain ⟨q2, q3⟩ := Dw q2
   have h2 := of_decide_eq_true h2
   refine ⟨h.n8, h.n200, by show (d.2.1 ++ [(o.2.1, o.2.2.1, ())]).length ≤ 300; rw [List.length_append, List.length_singleton]; omega, h.sec, fun i hi => ?_⟩
   have hi : i < d.2.1.length + 1 := by
    have hi : i < (d.2.1 ++ [(o.2.1, o.2.2.1, ())]).length := hi
    rw [List.length_append, List.length_singleton] at hi
    exact hi
   show 0 ≤ ((d.2.1 ++ [(o.2.1, o.2.2.1, ())]).getD i zW).1 ∧ ((d.2.1 ++ [(o.2.1, o.2.2.1, ())]).getD i zW).1 < (d.1.length : Int) ∧ ((d.2.1 ++ [(o.2.1, o.2.2.1, ())]).getD i zW).2.1.size = 64
   by_cases e : i < d.2.1.length
   ·have : (d.2.1 ++ [(o.2.1, o.2.2.1, ())]).getD i zW = d.2.1.getD i zW := by
     rw [List.getD_eq_getElem?_getD, List.getElem?_append_left e, ← List.getD_eq_getElem?_getD]
    rw [this]
    exact h.pen i e
   ·obtain rfl : i = d.2.1.length := by omega
    have : (d.2.1 ++ [(o.2.1, o.2.2.1, ())]).getD d.2.1.length zW = (o.2.1, o.2.2.1, ()) := by
     rw [List.getD_eq_getElem?_getD, List.getElem?_append_right (Nat.le_refl _), Nat.sub_self]
     rfl
    rw [this]
    exact ⟨of_decide_eq_true q1, of_decide_eq_true q2, of_decide_eq_true q3⟩
theorem Er.ops : ∀ (l : List Opn) {d : Dk}, Er d → Er (l.foldl opS d)
 | [], _, h => h
 | o :: r, _, h => Er.ops r (h.op o)
theorem Jg (n : Nat) : ∀ (f : Nat) (s : ByteArray), (Bb n f s).length ≤ f + 1
 | 0, s => by simp [Bb]
 | f + 1, s => by
  unfold Bb
  split
  ·rw [List.length_cons]
   have := Jg n f (Ad s n (nI s.size))
   omega
  ·simp
end Go.Proofs.Ytkfoebbjncngjaa.V

