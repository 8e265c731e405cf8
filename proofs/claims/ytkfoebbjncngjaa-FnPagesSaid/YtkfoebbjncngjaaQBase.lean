/- Plain facts. No condition. -/
import Derived.Test.YtkfoebbjncngjaaMBase
namespace Go.Proofs.Ytkfoebbjncngjaa.V
open Go Go.Proofs.Ytkfoebbjncngjaa.R
set_option linter.unusedVariables false
set_option linter.unusedSimpArgs false
theorem Ai {n : Int} (h0 : -9223372036854775808 ≤ n) (h1 : n < 9223372036854775808) : IntKind.i64.wrap n = n := by
 have e : IntKind.i64.wrap n = if n % 18446744073709551616 ≥ 9223372036854775808 then n % 18446744073709551616 - 18446744073709551616 else n % 18446744073709551616 := by
  simp [IntKind.wrap, IntKind.bits, IntKind.signed]
 rw [e]
 split <;> omega
theorem b5 {α : Type} (xs : List α) (i : Nat) (z : α) (h : i < xs.length) : xs.drop i = xs.getD i z :: xs.drop (i + 1) := by
 rw [List.drop_eq_getElem_cons h]
 simp [List.getD, List.getElem?_eq_getElem h]
theorem Ac4 {i : Nat} : decide ((0 : Int) ≤ (i : Int)) = true := by simp
theorem wI {i : Nat} (h : i < 4611686018427387904) : IntKind.i64.wrap ((i : Int) + 1) = ((i + 1 : Nat) : Int) := by rw [Ai (by omega) (by omega)]; rfl
theorem Eb {a b : Bool} (h : (a && b) = true) : a = true ∧ b = true := by
 cases a <;> cases b <;> first | exact ⟨rfl, rfl⟩ | cases h
theorem D8 {α : Type} {r : List α} {i : Nat} {x z : α} (h : i < r.length) : (r.set i x).getD i z = x := by
 simp [List.getD, h]
theorem Ns {α σ : Type} (Inv : σ → Prop) (step : Nat → α → σ → σ) : ∀ (l : List α) (i : Nat) (s : σ), (∀ i s x, x ∈ l → Inv s → Inv (step i x s)) → Inv s → Inv (s4 step i l s)
 | [], _, _, _, h => h
 | x :: r, i, s, hs, h => Ns Inv step r (i + 1) _ (fun i s y hy => hs i s y (List.mem_cons_of_mem _ hy)) (hs i s x (by simp) h)
theorem Ca {s : ByteArray} {a b : Int} (h0 : 0 ≤ a) (h1 : a ≤ b) (h2 : b ≤ (s.size : Int)) : (Ac s a b).size = (b - a).toNat := by
 unfold Ac
 rw [ByteArray.size_extract]
 omega
structure Ec (d : Dk) : Prop where
 n8 : 8 ≤ d.1.length
 n200 : d.1.length ≤ 200
 p300 : d.2.1.length ≤ 300
 sec : ∀ i, i < d.1.length → (d.1.getD i z0).size = 64
 pen : ∀ i, i < d.2.1.length → 0 ≤ (d.2.1.getD i zW).1 ∧ (d.2.1.getD i zW).1 < (d.1.length : Int) ∧ (d.2.1.getD i zW).2.1.size = 64
theorem getD_set_ne {α : Type} {r : List α} {i j : Nat} {x z : α} (h : i ≠ j) : (r.set i x).getD j z = r.getD j z := by
 simp [List.getD, List.getElem?_set_ne h]
theorem U0 (sec : List ByteArray) (ws : List Wr) : (Wg sec ws).length = sec.length :=
 Ns (fun s => s.length = sec.length) _ ws 0 sec (fun i s w _ h => by rw [List.length_set]; exact h) rfl
def Wj (n : Nat) (s : List ByteArray) : Prop := s.length = n ∧ ∀ i, i < n → (s.getD i z0).size = 64
theorem Wj.set {n : Nat} {s : List ByteArray} (h : Wj n s) {j : Nat} {x : ByteArray} (hx : x.size = 64) : Wj n (s.set j x) := by
 refine ⟨by rw [List.length_set]; exact h.1, fun i hi => ?_⟩
 by_cases q : j = i
 ·subst q
  rw [D8 (by rw [h.1]; exact hi)]
  exact hx
 ·rw [getD_set_ne q]
  exact h.2 i hi
theorem Wk {α β : Type} {m : Option α} {f : α → Option β} {a : α} {r : Option β} (h : m = some a) (h2 : f a = r) : m.bind f = r := by
 rw [h]; exact h2
theorem Wl {α : Type} {l : List α} {z : α} {P : α → Prop} (h : ∀ i, i < l.length → P (l.getD i z)) : ∀ x ∈ l, P x := by
 intro x hx
 obtain ⟨i, hi, rfl⟩ := List.mem_iff_getElem.1 hx
 have := h i hi
 rw [List.getD_eq_getElem?_getD, List.getElem?_eq_getElem hi] at this
 exact this
theorem Kf (a b : List Int) : strOfNums (a ++ b) = strOfNums a ++ strOfNums b := by
 unfold strOfNums
 rw [List.map_append]
 apply ByteArray.ext
 simp
theorem Ay (a : List Int) : (strOfNums a).size = a.length := by
 unfold strOfNums
 show (List.toArray _).size = _
 simp
theorem I7 (v : Int) : ∀ n, (E1 v n).length = n
 | 0 => rfl
 | n + 1 => by simp only [E1, List.length_append, I7 (v / 256) n, List.length_singleton]
theorem Df (v : Int) (n : Nat) : (Bn v n).size = n := by unfold Bn; rw [Ay, I7]
theorem Wm (v : Int) (out : ByteArray) : Bn v 0 ++ out = out := by
 apply ByteArray.ext
 simp [Bn, E1, strOfNums]
theorem s6 (s : ByteArray) : s ++ ByteArray.mk #[] = s := by
 apply ByteArray.ext
 simp
theorem Wn (v : Int) (k : Nat) : Bn v (k + 1) = Bn (v / 256) k ++ strOfNums [v % 256] := by
 unfold Bn
 rw [← Kf]
 rfl
theorem E2 (s : ByteArray) (i : Int) : 0 ≤ Ah s i ∧ Ah s i < 256 := by
 unfold Ah
 have := (s.data.toList.getD i.toNat 0).toNat_lt
 omega
theorem Ze : ∀ i : Nat, i < 7 → (256 : Int) ^ i ≤ 281474976710656 := by decide
theorem s7 (s : ByteArray) (i : Nat) {k : Nat} {v : Int} (hi : i + (k + 1) = s.size) (hs : i < 7) (h0 : 0 ≤ v) (h1 : v < 256 ^ i) :
  0 ≤ v * 256 + Ah s i ∧ v * 256 + Ah s i < 256 ^ (i + 1) ∧ IntKind.wrap IntKind.i64 (IntKind.wrap IntKind.i64 (v * 256) + IntKind.wrap IntKind.i64 (Ah s i)) = v * 256 + Ah s i := by
 obtain ⟨b0, b1⟩ := E2 s i
 have hp : (256 : Int) ^ (i + 1) = 256 ^ i * 256 := Int.pow_succ _ _
 have hle : (256 : Int) ^ i ≤ 281474976710656 := Ze i hs
 refine ⟨by omega, by omega, ?_⟩
 rw [Ai (n := v * 256) (by omega) (by omega), Ai (n := Ah s i) (by omega) (by omega), Ai (by omega) (by omega)]
theorem Aax (s : ByteArray) (i : Nat) {k : Nat} {v : Int} (hi : i + (k + 1) = s.size) (hs : i < 7) (h0 : 0 ≤ v) (h1 : v < 256 ^ i) :
  0 ≤ v * 256 + Ah s i ∧ v * 256 + Ah s i < 256 ^ (i + 1) ∧ IntKind.wrap IntKind.i64 (nI (BitVec.toNat (BitVec.ofInt 64 (IntKind.wrap IntKind.i64 (v * 2 ^ min (Int.toNat 8) 64)) ||| BitVec.ofInt 64 (IntKind.wrap IntKind.i64 (Ah s i))))) = v * 256 + Ah s i := by
 obtain ⟨b0, b1⟩ := E2 s i
 have hp : (256 : Int) ^ (i + 1) = 256 ^ i * 256 := Int.pow_succ _ _
 have hle : (256 : Int) ^ i ≤ 281474976710656 := Ze i hs
 refine ⟨by omega, by omega, ?_⟩
 have e8 : (v * 2 ^ min (Int.toNat 8) 64 : Int) = v * 256 := rfl
 rw [e8, Ai (n := v * 256) (by omega) (by omega), Ai (n := Ah s i) (by omega) (by omega)]
 obtain ⟨n, rfl⟩ : ∃ n : Nat, v = (n : Int) := ⟨v.toNat, by omega⟩
 obtain ⟨b, hb⟩ : ∃ b : Nat, Ah s i = (b : Int) := ⟨(Ah s i).toNat, by omega⟩
 rw [hb] at b0 b1 ⊢
 have e1 : BitVec.ofInt 64 ((n : Int) * 256) = BitVec.ofNat 64 (n * 256) := by
  rw [show ((n : Int) * 256) = ((n * 256 : Nat) : Int) by omega]; exact BitVec.ofInt_natCast _ _
 have e2 : BitVec.ofInt 64 (b : Int) = BitVec.ofNat 64 b := BitVec.ofInt_natCast _ _
 rw [e1, e2, BitVec.toNat_or, BitVec.toNat_ofNat, BitVec.toNat_ofNat, Nat.mod_eq_of_lt (by omega), Nat.mod_eq_of_lt (by omega)]
 have e3 : n * 256 ||| b = n * 256 + b := by
  have := Nat.shiftLeft_add_eq_or_of_lt (i := 8) (b := b) (by omega) n
  rw [Nat.shiftLeft_eq] at this
  exact this.symm
 rw [e3]
 exact Ai (by simp only [nI]; omega) (by simp only [nI]; omega)
theorem U1 {σ ρ : Type} (n : Nat) (Inv : Nat → σ → Prop) (step : Nat → σ → σ) {g : Nat → Nat → σ → Option ρ} {ok : σ → ρ}
  (hs : ∀ m i s, i < n → Inv i s → g (m + 1) i s = g m (i + 1) (step i s)) (he : ∀ m s, Inv n s → g (m + 1) n s = some (ok s))
  (hI : ∀ i s, i < n → Inv i s → Inv (i + 1) (step i s)) : ∀ k m i s, i + k = n → k < m → Inv i s → g m i s = some (ok (iter step k i s))
 | 0, m + 1, i, s, hi, _, h => by
  obtain rfl : i = n := by omega
  exact he m s h
 | k + 1, m + 1, i, s, hi, hm, h => by
  rw [hs m i s (by omega) h]
  exact U1 n Inv step hs he hI k m (i + 1) _ (by omega) (by omega) (hI i s (by omega) h)
theorem Wo {σ : Type} (Inv : σ → Prop) (f : Nat → σ → σ) (hf : ∀ i s, Inv s → Inv (f i s)) : ∀ k i s, Inv s → Inv (iter f k i s)
 | 0, _, _, h => h
 | k + 1, i, s, h => Wo Inv f hf k (i + 1) _ (hf i s h)
theorem wid (w : Int) : (bif decide (w ≥ 1) then some ((decide (w ≤ 8), ()), ()) else some ((false, ()), ())) = (some ((Cs w 1 8, ()), ()) : Option ((Bool × Unit) × Unit)) := by
 unfold Cs
 by_cases h : 1 ≤ w
 ·rw [decide_eq_true (show w ≥ 1 from h)]; rfl
 ·rw [decide_eq_false (show ¬ w ≥ 1 from h)]; rfl
theorem Abw (k : Int) : IntKind.wrap IntKind.u64 k = k % 18446744073709551616 := by
 simp [IntKind.wrap, IntKind.bits, IntKind.signed]
theorem Ac5 (k : Int) : IntKind.i64.wrap k = if k % 18446744073709551616 ≥ 9223372036854775808 then k % 18446744073709551616 - 18446744073709551616 else k % 18446744073709551616 := by
 simp [IntKind.wrap, IntKind.bits, IntKind.signed]
def U64 (h : Int) : Prop := 0 ≤ h ∧ h < 18446744073709551616
theorem Zf (s : ByteArray) (k i : Nat) {h : Int} (hh : U64 h) : U64 (Nq s k i h) :=
 Wo U64 _ (fun i s _ => by unfold I5; rw [Abw]; exact ⟨Int.emod_nonneg _ (by decide), Int.emod_lt_of_pos _ (by decide)⟩) k i h hh
theorem Rb : ∀ (n : Nat) (v c : Int), E1 (v + 256 ^ n * c) n = E1 v n
 | 0, _, _ => rfl
 | n + 1, v, c => by
  have e : v + 256 ^ (n + 1) * c = v + 256 * (256 ^ n * c) := by rw [Int.pow_succ, Int.mul_comm (256 ^ n) 256, Int.mul_assoc]
  simp only [E1]
  rw [e]
  have e1 : (v + 256 * (256 ^ n * c)) / 256 = v / 256 + 256 ^ n * c := by omega
  have e2 : (v + 256 * (256 ^ n * c)) % 256 = v % 256 := by omega
  rw [e1, e2, Rb n]
theorem Tl (n : Nat) : ∀ (w : Nat) (v : Int), (E1 v (n + w)).drop n = E1 v w
 | 0, v => by rw [List.drop_eq_nil_of_le (by rw [I7]; omega)]; rfl
 | w + 1, v => by
  show (E1 (v / 256) (n + w) ++ [v % 256]).drop n = _
  rw [List.drop_append_of_le_length (by rw [I7]; omega), Tl n w]
  rfl
theorem s8 (l : List Int) (a : Nat) : Ac (strOfNums l) (a : Int) (nI (strOfNums l).size) = strOfNums (l.drop a) := by
 unfold Ac
 rw [Ay]
 apply ByteArray.ext
 simp [strOfNums, nI, List.map_drop]
 exact List.take_of_length_le (by simp)
theorem Aay {h w : Int} (hh : U64 h) (h1 : 1 ≤ w) (h8 : w ≤ 8) : Ac (Bn (IntKind.wrap IntKind.i64 h) (Int.toNat 8)) (8 - w) (nI (ByteArray.size (Bn (IntKind.wrap IntKind.i64 h) (Int.toNat 8)))) = Bn h w.toNat := by
 obtain ⟨n, rfl⟩ : ∃ n : Nat, w = (n : Int) := ⟨w.toNat, by omega⟩
 have e8 : Int.toNat 8 = (8 - n) + n := by omega
 have e : (8 - (n : Int)) = ((8 - n : Nat) : Int) := by omega
 rw [e]
 unfold Bn
 have hd : E1 (IntKind.wrap IntKind.i64 h) (Int.toNat 8) = E1 h (Int.toNat 8) := by
  by_cases q : h < 9223372036854775808
  ·rw [Ai (by have := hh.1; omega) q]
  ·have : IntKind.wrap IntKind.i64 h = h + 256 ^ 8 * (-1) := by
    have h6 : (256 : Int) ^ 8 = 18446744073709551616 := by decide
    have := hh.2
    rw [h6]
    rw [Ac5]
    split <;> omega
   rw [this]
   exact Rb 8 h (-1)
 rw [hd, s8, e8, Tl]
 rfl
theorem E3 {s : ByteArray} {w : Int} (h : Cs w 1 8 = true) : (Ia s w).size = w.toNat := by
 unfold Ia; rw [h]; exact Df _ _
theorem Adm : ∀ n : Nat, n ≤ 64 → K7 (ByteArray.mk #[0]) (n : Int) = some (strOfNums (List.replicate n 0)) := by decide +kernel
theorem Ed {p : Pg} {w : Int} (h : Be p w = true) : Cs w 1 8 = true ∧ 1 ≤ w ∧ w ≤ 8 ∧ (p.2.2.2.1.size : Int) ≤ 56 - w := by
 obtain ⟨h1, h2⟩ := Eb h
 obtain ⟨_, h2⟩ := Eb h2
 obtain ⟨_, h2⟩ := Eb h2
 obtain ⟨_, h2⟩ := Eb h2
 exact ⟨h1, of_decide_eq_true (Eb h1).1, of_decide_eq_true (Eb h1).2, of_decide_eq_true (Eb h2).1⟩
theorem Fg {v lo hi : Int} (h : Cs v lo hi = true) : lo ≤ v ∧ v ≤ hi := ⟨of_decide_eq_true (Eb h).1, of_decide_eq_true (Eb h).2⟩
theorem Wp {p : Pg} {w : Int} (h : Be p w = true) : (1 ≤ p.1 ∧ p.1 ≤ 4) ∧ (1 ≤ p.2.1 ∧ p.2.1 ≤ 60000) ∧ (1 ≤ p.2.2.1 ∧ p.2.2.1 ≤ 1000000000) := by
 obtain ⟨_, h2⟩ := Eb h
 obtain ⟨h3, h2⟩ := Eb h2
 obtain ⟨h4, h2⟩ := Eb h2
 obtain ⟨h5, h2⟩ := Eb h2
 exact ⟨Fg h3, Fg h4, Fg h5⟩
theorem Cu (a b : ByteArray) : Ab (a ++ b) = Ab a ++ Ab b := by
 unfold Ab
 simp
theorem Br (s : ByteArray) : (Ab s).length = s.size := by
 unfold Ab
 rw [List.length_map]
 rfl
theorem K8 (l : List Int) (h : Bu l = true) : Ab (strOfNums l) = l := by
 unfold Ab strOfNums
 show (List.map _ (List.map _ l)) = l
 rw [List.map_map]
 conv => rhs; rw [← List.map_id l]
 refine List.map_congr_left fun x hx => ?_
 have := List.all_eq_true.1 h x hx
 obtain ⟨h1, h2⟩ := Eb this
 have h1 := of_decide_eq_true h1
 have h2 := of_decide_eq_true h2
 show (((UInt8.ofNat x.toNat).toNat : Nat) : Int) = x
 rw [UInt8.toNat_ofNat']
 rw [Nat.mod_eq_of_lt (by omega)]
 omega
theorem Tm (s : ByteArray) : Bu (Ab s) = true := by
 refine List.all_eq_true.2 fun x hx => ?_
 obtain ⟨b, _, rfl⟩ := List.mem_map.1 hx
 have := b.toNat_lt
 show (decide (0 ≤ (b.toNat : Int)) && decide ((b.toNat : Int) < 256)) = true
 rw [decide_eq_true (by omega), decide_eq_true (by omega)]
 rfl
theorem C7 (a b : List Int) : Bu (a ++ b) = (Bu a && Bu b) := List.all_append
theorem Zg (n : Nat) (h : n < 256) : Bu [nI n] = true := by
 show ((decide (0 ≤ nI n) && decide (nI n < 256)) && true) = true
 rw [decide_eq_true (by simp only [nI]; omega), decide_eq_true (by simp only [nI]; omega)]
 rfl
theorem b6 {c : Chg} (h : Ow c = true) : 1 ≤ c.1.size ∧ c.1.size ≤ 20 ∧ c.2.1.size ≤ 100 := by
 obtain ⟨h1, h2⟩ := Eb h
 obtain ⟨h2, _⟩ := Eb h2
 have := Fg h1
 have := of_decide_eq_true h2
 omega
theorem Ox {c : Chg} (h : Ow c = true) : Bu (b4 c) = true ∧ (b4 c).length ≤ 200 := by
 obtain ⟨k1, k2, k3⟩ := b6 h
 unfold b4
 have a1 := Zg c.1.size (by omega)
 have a2 := Zg c.2.1.size (by omega)
 have b1 : Bu [1, nI c.1.size] = true := by
  rw [show [1, nI c.1.size] = [1] ++ [nI c.1.size] from rfl, C7, a1]; rfl
 have b0 : Bu [0, nI c.1.size] = true := by
  rw [show [0, nI c.1.size] = [0] ++ [nI c.1.size] from rfl, C7, a1]; rfl
 cases c.2.2.1
 ·simp only [cond_false, C7, b0, a2, Tm, List.length_append, Br, List.length_cons, List.length_nil]
  exact ⟨rfl, by omega⟩
 ·simp only [cond_true, C7, b1, Tm, List.length_append, Br, List.length_cons, List.length_nil]
  exact ⟨rfl, by omega⟩
theorem Sd {b : List Chg} (h : F8 b = true) : b.length ≤ 20 ∧ ∀ i, i < b.length → Ow (b.getD i zC) = true := by
 obtain ⟨h1, h2⟩ := Eb h
 refine ⟨by have := (Fg h1).2; omega, fun i hi => ?_⟩
 exact List.all_eq_true.1 h2 i (List.mem_range'_1.2 ⟨by omega, by omega⟩)
def s9 (i : Nat) (r : List Int) : Prop := r.length ≤ 200 * i ∧ Bu r = true
theorem s9.step {i : Nat} {r : List Int} {c : Chg} (h : s9 i r) (hc : Ow c = true) : s9 (i + 1) (r ++ b4 c) := by
 obtain ⟨q1, q2⟩ := Ox hc
 exact ⟨by rw [List.length_append]; have := h.1; omega, by rw [C7, h.2, q1]; rfl⟩
theorem I8 {a b : ByteArray} (h : Ab a = Ab b) : a = b := by
 apply ByteArray.ext
 apply Array.ext'
 unfold Ab at h
 exact (List.map_inj_right (fun x y e => UInt8.toNat_inj.1 (by omega))).1 h
theorem Dz (s : ByteArray) (a b : Nat) : Ab (Ac s a b) = ((Ab s).drop a).take (b - a) := by
 unfold Ab Ac
 simp [List.map_drop, List.map_take]
theorem Ac6 {a b : ByteArray} (h : (a.toList == b.toList) = true) : a = b := by
 have h := eq_of_beq h
 rw [ByteArray.toList_eq, ByteArray.toList_eq] at h
 apply ByteArray.ext
 exact Array.ext' h
theorem b8 {b : List Chg} (h : F8 b = true) : 1 ≤ b.length ∧ b.length ≤ 20 ∧ ∀ c ∈ b, Ow c = true := by
 obtain ⟨h1, h2⟩ := Sd h
 refine ⟨by have := (Fg (Eb h).1).1; omega, h1, Wl (z := zC) (P := fun c => Ow c = true) h2⟩
def Aaz (v b : Int) : Int := v * 256 + b
theorem F9 (s : ByteArray) (i : Nat) : Ah s i = (Ab s).getD i 0 := by
 unfold Ah Ab
 simp only [Int.toNat_natCast, List.getD_eq_getElem?_getD, List.getElem?_map]
 cases s.data.toList[i]? <;> rfl
theorem Wq (s : ByteArray) : ∀ k i v, i + k = s.size → Wh s k i v = ((Ab s).drop i).foldl Aaz v
 | 0, i, v, h => by rw [List.drop_of_length_le (by rw [Br]; omega)]; rfl
 | k + 1, i, v, h => by
  rw [b5 (Ab s) i 0 (by rw [Br]; omega), List.foldl_cons, ← F9]
  exact Wq s k (i + 1) _ (by omega)
theorem Aa0 (s : ByteArray) : Ra s = (Ab s).foldl Aaz 0 := by
 unfold Ra
 rw [Wq s s.size 0 0 (by omega), List.drop_zero]
theorem Ws : ∀ (n : Nat) (v : Int), 0 ≤ v → v < 256 ^ n → (E1 v n).foldl Aaz 0 = v
 | 0, v, h0, h1 => by
  have : v < 1 := h1
  show (0 : Int) = v
  omega
 | n + 1, v, h0, h1 => by
  have hp : (256 : Int) ^ (n + 1) = 256 ^ n * 256 := Int.pow_succ _ _
  simp only [E1, List.foldl_append, List.foldl_cons, List.foldl_nil]
  rw [Ws n (v / 256) (by omega) (by omega)]
  unfold Aaz
  omega
theorem Wt : ∀ (n : Nat) (v : Int), Bu (E1 v n) = true
 | 0, _ => rfl
 | n + 1, v => by
  simp only [E1, C7, Wt n]
  show (true && ((decide (0 ≤ v % 256) && decide (v % 256 < 256)) && true)) = true
  rw [decide_eq_true (by omega), decide_eq_true (by omega)]
  rfl
theorem E4 (v : Int) (n : Nat) : Ab (Bn v n) = E1 v n := K8 _ (Wt n v)
theorem Wu {v : Int} {n : Nat} (h0 : 0 ≤ v) (h1 : v < 256 ^ n) : Ra (Bn v n) = v := by rw [Aa0, E4, Ws n v h0 h1]
theorem b9 (n : Nat) : Bu (List.replicate n 0) = true := List.all_eq_true.2 fun x hx => by
 rw [List.eq_of_mem_replicate hx]; rfl
theorem K9 (p : Pg) (w : Int) : Ab (Bc p w) = E1 p.1 1 ++ (E1 p.2.1 2 ++ (E1 p.2.2.1 4 ++ (E1 p.2.2.2.1.size 1 ++ (Ab p.2.2.2.1 ++ List.replicate (56 - w - p.2.2.2.1.size).toNat 0)))) := by
 unfold Bc
 rw [Cu, Cu, Cu, Cu, Cu, E4, E4, E4, E4, K8 _ (b9 _)]
 simp only [List.append_assoc]
theorem Tn {p : Pg} {w : Int} (h : Be p w = true) : (Bc p w).size = (64 - w).toNat := by
 obtain ⟨hw, k1, k2, kp⟩ := Ed h
 rw [← Br, K9]
 simp only [List.length_append, I7, Br, List.length_replicate]
 omega
theorem Ga {p : Pg} {w : Int} (h : Be p w = true) : (An p w).size = 64 ∧ Ac (An p w) w (nI (An p w).size) = Bc p w := by
 obtain ⟨hw, k1, k2, kp⟩ := Ed h
 have e : An p w = Ia (Bc p w) w ++ Bc p w := by unfold An; rw [h]; rfl
 have hs : (An p w).size = 64 := by rw [e, ByteArray.size_append, E3 hw, Tn h]; omega
 refine ⟨hs, ?_⟩
 obtain ⟨n, rfl⟩ : ∃ n : Nat, w = (n : Int) := ⟨w.toNat, by omega⟩
 apply I8
 have q : Ac (An p n) n (nI (An p n).size) = Ac (An p n) (n : Nat) ((64 : Nat) : Int) := by rw [hs] <;> rfl
 rw [q, Dz, e, Cu, List.drop_append_of_le_length (by rw [Br, E3 hw]; omega), List.drop_of_length_le (by rw [Br, E3 hw]; omega), List.nil_append, List.take_of_length_le (by rw [Br, Tn h]; omega)]
theorem u3 {p : Pg} {w : Int} (h : Be p w = true) : Ya (Bc p w) = p := by
 obtain ⟨hw, k1, k2, kp⟩ := Ed h
 obtain ⟨r1, r2, r3⟩ := Wp h
 have hb := K9 p w
 have d1 : ∀ v : Int, E1 v 1 = [v % 256] := fun v => rfl
 have d2 : ∀ v : Int, E1 v 2 = [v / 256 % 256, v % 256] := fun v => rfl
 have d4 : ∀ v : Int, E1 v 4 = [v / 256 / 256 / 256 % 256, v / 256 / 256 % 256, v / 256 % 256, v % 256] := fun v => rfl
 have b7 : Ah (Bc p w) 7 = p.2.2.2.1.size := by
  have := F9 (Bc p w) 7
  rw [hb, d1, d2, d4, d1] at this
  refine this.trans ?_
  show (p.2.2.2.1.size : Int) % 256 = _
  omega
 have b0 : Ah (Bc p w) 0 = p.1 := by
  have := F9 (Bc p w) 0
  rw [hb, d1] at this
  refine this.trans ?_
  show p.1 % 256 = _
  omega
 have c1 : Ac (Bc p w) 1 3 = Bn p.2.1 2 := by
  apply I8
  have := Dz (Bc p w) 1 3
  rw [hb, d1, d2, d4, d1] at this
  exact this.trans (by rw [E4, d2]; rfl)
 have c3 : Ac (Bc p w) 3 7 = Bn p.2.2.1 4 := by
  apply I8
  have := Dz (Bc p w) 3 7
  rw [hb, d1, d2, d4, d1] at this
  exact this.trans (by rw [E4, d4]; rfl)
 have c8 : Ac (Bc p w) 8 (8 + (p.2.2.2.1.size : Int)) = p.2.2.2.1 := by
  apply I8
  have := Dz (Bc p w) 8 (8 + p.2.2.2.1.size)
  rw [hb, d1, d2, d4, d1] at this
  refine this.trans ?_
  show List.take (8 + p.2.2.2.1.size - 8) (Ab p.2.2.2.1 ++ _) = _
  rw [show 8 + p.2.2.2.1.size - 8 = p.2.2.2.1.size by omega, List.take_append_of_le_length (by rw [Br]; omega), List.take_of_length_le (by rw [Br]; omega)]
 have p2 : (256 : Int) ^ 2 = 65536 := by decide
 have p4 : (256 : Int) ^ 4 = 4294967296 := by decide
 unfold Ya
 rw [b7, b0, c1, c3, c8, Wu (by omega) (by omega), Wu (by omega) (by omega)]
theorem Fv {p : Pg} {w : Int} (h : Be p w = true) : Ea (An p w) w = (p, true) := by
 obtain ⟨hw, k1, k2, kp⟩ := Ed h
 obtain ⟨hs, ht⟩ := Ga h
 have hr := u3 h
 have b7 : Ah (Bc p w) 7 = p.2.2.2.1.size := by
  have := F9 (Bc p w) 7
  rw [K9] at this
  refine this.trans ?_
  show (p.2.2.2.1.size : Int) % 256 = _
  omega
 unfold Ea Yb
 rw [ht, hr, hw, hs, b7, beq_self_eq_true, decide_eq_false (by omega)]
 rfl
theorem La {s : ByteArray} {w : Int} {p : Pg} (h : Ea s w = (p, true)) : s.size = 64 ∧ Cs w 1 8 = true ∧ An p w = s ∧ Be p w = true := by
 unfold Ea at h
 cases h1 : (nI s.size != 64) with
 | true => rw [h1] at h; cases h
 | false =>
  cases h2 : Cs w 1 8 with
  | false => rw [h1, h2] at h; cases h
  | true =>
   cases h3 : decide (Ah (Ac s w (nI s.size)) 7 > 56 - w) with
   | true => rw [h1, h2, h3] at h; cases h
   | false =>
    cases h4 : ((An (Yb s w) w).toList == s.toList) with
    | false => rw [h1, h2, h3, h4] at h; cases h
    | true =>
     rw [h1, h2, h3, h4] at h
     have e : Yb s w = p := congrArg Prod.fst h
     rw [e] at h4
     have e2 := Ac6 h4
     have hs : s.size = 64 := by
      by_cases q : nI s.size = 64
      ·simp only [nI] at q; omega
      ·rw [(bne_iff_ne).2 q] at h1; cases h1
     refine ⟨hs, rfl, e2, ?_⟩
     cases hp : Be p w with
     | true => rfl
     | false =>
      unfold An at e2
      rw [hp] at e2
      subst e2
      cases hs
theorem c7 {a n : Int} (hn : 0 < n) : (a + n - 1) / n = 1 + (a - n + n - 1) / n := by
 have : a + n - 1 = (a - n + n - 1) + n * 1 := by omega
 rw [this, Int.add_mul_ediv_left _ _ (by omega)]
 omega
theorem To (n : Nat) (hn : 1 ≤ n) : ∀ (f : Nat) (s : ByteArray), s.size ≤ f → ((Do n f s).length : Int) = if ((s.size : Int) + n - 1) / n > 1 then ((s.size : Int) + n - 1) / n else 1
 | 0, s, h => by
  have h0 : s.size = 0 := by omega
  simp only [Do, h0]
  have : (((0 : Nat) : Int) + n - 1) / n = 0 := Int.ediv_eq_zero_of_lt (by omega) (by omega)
  exact (if_neg (by rw [this]; decide)).symm
 | f + 1, s, h => by
  by_cases q : s.size > n
  ·have hc : (Ac s n (nI s.size)).size = s.size - n := by rw [Ca (by omega) (by simp only [nI]; omega) (by simp [nI])]; simp only [nI]; omega
   simp only [Do, if_pos q, List.length_cons]
   have ih := To n hn f (Ac s n (nI s.size)) (by omega)
   rw [hc] at ih
   have e := c7 (a := s.size) (n := n) (by omega)
   have e2 : ((s.size - n : Nat) : Int) = (s.size : Int) - n := by omega
   rw [e2] at ih
   have hp : 1 ≤ ((s.size : Int) - n + n - 1) / n := by
    rw [Int.le_ediv_iff_mul_le (by omega)]
    omega
   rw [e]
   generalize ((s.size : Int) - n + n - 1) / n = y at *
   rw [if_pos (by omega)]
   split at ih <;> omega
  ·simp only [Do, if_neg q]
   have : ((s.size : Int) + n - 1) / n < 2 := by
    rw [Int.ediv_lt_iff_lt_mul (by omega)]
    omega
   exact (if_neg (by omega)).symm
theorem Lb {s : ByteArray} {w : Int} (hw : Cs w 1 8 = true) : ((A3 s w).length : Int) = if ((s.size : Int) + (56 - w) - 1) / (56 - w) > 1 then ((s.size : Int) + (56 - w) - 1) / (56 - w) else 1 := by
 obtain ⟨h1, h2⟩ := Fg hw
 obtain ⟨n, hn⟩ : ∃ n : Nat, 56 - w = (n : Int) := ⟨(56 - w).toNat, by omega⟩
 unfold A3
 rw [hn, Int.toNat_natCast]
 exact To n (by omega) s.size s (Nat.le_refl _)
theorem I9 (life w : Int) : ∀ (L : List ByteArray) (k : Int), Hg life w k L = (List.range' 0 L.length).map (fun i => An ((if i + 1 = L.length then 2 else 1), life, k + (i : Int), L.getD i z0, ()) w)
 | [], k => rfl
 | [p], k => by
  show [An (2, life, k, p, ()) w] = [An ((if 0 + 1 = 1 then 2 else 1), life, k + ((0 : Nat) : Int), p, ()) w]
  rw [if_pos rfl, show k + ((0 : Nat) : Int) = k by omega]
 | p :: q :: r, k => by
  have ih := I9 life w (q :: r) (k + 1)
  show An (1, life, k, p, ()) w :: Hg life w (k + 1) (q :: r) = (List.range' 0 ((q :: r).length + 1)).map (fun i => An ((if i + 1 = (q :: r).length + 1 then 2 else 1), life, k + (i : Int), (p :: q :: r).getD i z0, ()) w)
  rw [ih, List.range'_succ, List.map_cons]
  congr 1
  ·rw [if_neg (by rw [List.length_cons]; omega), show k + ((0 : Nat) : Int) = k by omega]
   rfl
  ·rw [show List.range' (0 + 1) (q :: r).length = List.map (fun x => 1 + x) (List.range' 0 (q :: r).length) by rw [List.map_add_range'], List.map_map]
   refine List.map_congr_left fun i _ => ?_
   show _ = An ((if 1 + i + 1 = (q :: r).length + 1 then 2 else 1), life, k + ((1 + i : Nat) : Int), (p :: q :: r).getD (1 + i) z0, ()) w
   rw [show k + ((1 + i : Nat) : Int) = k + 1 + (i : Int) by omega, show 1 + i = i + 1 by omega]
   by_cases e : i + 1 = (q :: r).length
   ·rw [if_pos e, if_pos (by omega)]; rfl
   ·rw [if_neg e, if_neg (by omega)]; rfl
theorem Rc (p : Pg) (w : Int) : (An p w).size ≤ 64 := by
 cases h : Be p w with
 | true => rw [(Ga h).1]; exact Nat.le_refl _
 | false => unfold An; rw [h]; show (ByteArray.mk #[]).size ≤ 64; decide
theorem Yc (life w : Int) : ∀ (L : List ByteArray) (k : Int), (Hg life w k L).length = L.length ∧ ∀ x ∈ Hg life w k L, x.size ≤ 64 := by
 intro L k
 rw [I9]
 refine ⟨by simp, fun x hx => ?_⟩
 obtain ⟨i, _, rfl⟩ := List.mem_map.1 hx
 exact Rc _ _
theorem Ec.sync {d : Dk} (h : Ec d) : Ec (Abv d) := by
 have hl := U0 d.1 d.2.1
 have hs : Wj d.1.length (Wg d.1 d.2.1) := Ns (Wj d.1.length) _ d.2.1 0 d.1 (fun i s w hw hI => hI.set (Wl (z := zW) (P := fun w : Wr => w.2.1.size = 64) (fun i hi => (h.pen i hi).2.2) w hw)) ⟨rfl, h.sec⟩
 exact ⟨by show 8 ≤ (Wg d.1 d.2.1).length; rw [hl]; exact h.n8, by show (Wg d.1 d.2.1).length ≤ 200; rw [hl]; exact h.n200, by show (0 : Nat) ≤ 300; omega, fun i hi => hs.2 i (by rw [← hl]; exact hi), fun i hi => absurd hi (by show ¬ i < 0; omega)⟩
theorem Ec.op {d : Dk} (h : Ec d) (o : Opn) : Ec (opS d o) := by
 unfold opS
 cases o.1 with
 | true => exact h.sync
 | false =>
  cases hc : q9 d.1.length (o.2.1, o.2.2.1, ()) && decide (d.2.1.length < 300) with
  | false => exact h
  | true =>
   obtain ⟨h1, h2⟩ := Eb hc
   obtain ⟨q1, q2⟩ := Eb h1
   obtain ⟨q2, q3⟩ := Eb q2
   have h2 := of_decide_eq_true h2
   refine ⟨h.n8, h.n200, by show (d.2.1 ++ [(o.2.1, o.2.2.1, ())]).length ≤ 300; rw [List.length_append, List.length_singleton]; omega, h.sec, fun i hi => ?_⟩
   have hi : i < d.2.1.length + 1 := by
    have hi : i < (d.2.1 ++ [(o.2.1, o.2.2.1, ())]).length := hi
    rw [List.length_append, List.length_singleton] at hi
    exact hi
   show 0 ≤ ((d.2.1 ++ [(o.2.1, o.2.2.1, ())]).getD i zW).1 ∧ ((d.2.1 ++ [(o.2.1, o.2.2.1, ())]).getD i zW).1 < (d.1.length : Int) ∧ ((d.2.1 ++ [(o.2.1, o.2.2.1, ())]).getD i zW).2.1.size = 64
   by_cases e : i < d.2.1.length
   ·have : (d.2.1 ++ [(o.2.1, o.2.2.1, ())]).getD i zW = d.2.1.getD i zW := by
     rw [List.getD_eq_getElem?_getD, List.getElem?_append_left e, ← List.getD_eq_getElem?_getD]
    rw [this]
    exact h.pen i e
   ·obtain rfl : i = d.2.1.length := by omega
    have : (d.2.1 ++ [(o.2.1, o.2.2.1, ())]).getD d.2.1.length zW = (o.2.1, o.2.2.1, ()) := by
     rw [List.getD_eq_getElem?_getD, List.getElem?_append_right (Nat.le_refl _), Nat.sub_self]
     rfl
    rw [this]
    exact ⟨of_decide_eq_true q1, of_decide_eq_true q2, of_decide_eq_true q3⟩
theorem Ec.ops : ∀ (l : List Opn) {d : Dk}, Ec d → Ec (l.foldl opS d)
 | [], _, h => h
 | o :: r, _, h => Ec.ops r (h.op o)
end Go.Proofs.Ytkfoebbjncngjaa.V

