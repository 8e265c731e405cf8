/- Plain facts, second part. No condition. -/
import Derived.Test.YteaoabdlcefkhaaGreatQBase
namespace Go.Proofs.YteaoabdlcefkhaaGreat.V
open Go Go.Proofs.YteaoabdlcefkhaaGreat.R
set_option linter.unusedVariables false
set_option linter.unusedSimpArgs false
theorem E4 {α σ E : Type} {xs : List α} (z : α) (Inv : Nat → σ → Prop) (step : Nat → α → σ → σ) {g : Nat → Int → σ → Option E} {ok : σ → E}
  (hs : ∀ m (i : Nat) s, i < xs.length → Inv i s → g (m + 1) i s = g m ((i + 1 : Nat) : Int) (step i (xs.getD i z) s))
  (hi : ∀ i s, i < xs.length → Inv i s → Inv (i + 1) (step i (xs.getD i z) s))
  (he : ∀ m s, Inv xs.length s → g (m + 1) (xs.length : Int) s = some (ok s)) :
  ∀ (m i : Nat) s, i ≤ xs.length → xs.length - i < m → Inv i s → g m i s = some (ok (Eu step i (xs.drop i) s))
 | 0, i, s, _, hm, _ => by omega
 | m + 1, i, s, hl, hm, hI => by
  by_cases h : i < xs.length
  ·rw [hs m i s h hI, E4 z Inv step hs hi he m (i + 1) _ (by omega) (by omega) (hi i s h hI), Ih xs i z h]
   rfl
  ·have : i = xs.length := by omega
   subst this
   rw [he _ _ hI, List.drop_length]
   rfl
theorem Ap1 (n : Nat) (h : n < 1099511627776) : IntKind.wrap IntKind.i64 (nI (n + 1) - 1) = (n : Int) := by
 simp only [nI]
 rw [Ad (by omega) (by omega)]
 omega
theorem Azv (i : Nat) : (Int.tmod (i : Int) 20 == 0) = (i % 20 == 0) := by
 have : Int.tmod (i : Int) 20 = ((i % 20 : Nat) : Int) := by rw [Int.tmod_eq_emod_of_nonneg (by omega)]; omega
 rw [this]
 by_cases h : i % 20 = 0
 ·rw [h]; rfl
 ·rw [beq_eq_false_iff_ne.2 h]
  exact beq_eq_false_iff_ne.2 (by omega)
theorem Asv {α : Type} (c : Bool) (xs : List α) (y : α) : (U9 c xs y).length = xs.length + c.toNat := by cases c <;> simp [U9]
def Aoj (i : Nat) (s : List (List Chg) × Bool × List Chg) : Prop := i ≤ 100 ∧ s.1.length ≤ i ∧ (0 < i → s.2.1 = true) ∧ s.2.2.length ≤ i
theorem Aoj.step {i : Nat} {s : List (List Chg) × Bool × List Chg} (h : Aoj i s) (h1 : i < 100) (p : Pr2) : Aoj (i + 1) (Oq i p s) := by
 obtain ⟨_, h2, h3, h4⟩ := h
 unfold Oq
 cases hc : (i % 20 == 0)
 ·have : 0 < i := Nat.pos_of_ne_zero fun q => by subst q; cases hc
  refine ⟨by omega, by simp only [cond_false]; omega, fun _ => h3 this, ?_⟩
  simp only [cond_false, List.length_append, List.length_singleton]
  omega
 ·refine ⟨by omega, ?_, fun _ => rfl, by simp⟩
  simp only [cond_true]
  rw [Asv]
  by_cases q : 0 < i
  ·rw [h3 q]; simp; omega
  ·cases s.2.1 <;> simp <;> omega
theorem Fh {s : Stt} (h : Bf s = true) : s.1.length ≤ 100 := of_decide_eq_true (Cj h).1
theorem Asw (s : ByteArray) (w : Int) : (bif E9 w 1 8 then ((Ci s w).length : Int) else 0) = Eg s.size w := by
 unfold Eg
 cases hw : E9 w 1 8 with
 | false => rfl
 | true => exact n0 hw
theorem Adr (n : Nat) (w : Int) : 0 ≤ Eg n w ∧ Eg n w ≤ (n : Int) + 1 := by
 unfold Eg
 cases hw : E9 w 1 8 with
 | false => exact ⟨Int.le_refl _, by simp only [cond_false]; omega⟩
 | true =>
  obtain ⟨h1, h2⟩ := Hb hw
  simp only [cond_true]
  have hc : w = 1 ∨ w = 2 ∨ w = 3 ∨ w = 4 ∨ w = 5 ∨ w = 6 ∨ w = 7 ∨ w = 8 := by omega
  rcases hc with rfl | rfl | rfl | rfl | rfl | rfl | rfl | rfl <;> split <;> omega
theorem Au5 {b : List Chg} (h : ∀ c ∈ b, L8 c = true) : (F1 b).length ≤ 200 * b.length := by
 induction b with
 | nil => simp [F1]
 | cons c r ih =>
  have h1 := (R7 (h c (by simp))).2
  have h2 := ih fun c hc => h c (by simp [hc])
  have e : F1 (c :: r) = P0 c ++ F1 r := rfl
  rw [e, List.length_append, List.length_cons]
  omega
theorem Lg (b : List Chg) : (Ff b).size ≤ 4000 := by
 unfold Ff
 cases hv : Bd b with
 | false => exact Nat.zero_le _
 | true =>
  obtain ⟨_, h2, h3⟩ := Adq hv
  have := Au5 h3
  show (strOfNums (F1 b)).size ≤ 4000
  rw [Eh]
  omega
theorem T6 {α σ : Type} (z : α) (Inv : Nat → σ → Prop) (step : Nat → α → σ → σ) {xs : List α} (hi : ∀ i s, i < xs.length → Inv i s → Inv (i + 1) (step i (xs.getD i z) s)) :
  ∀ (k i : Nat) s, i + k = xs.length → Inv i s → Inv xs.length (Eu step i (xs.drop i) s)
 | 0, i, s, h, hI => by
  have : i = xs.length := by omega
  subst this
  rw [List.drop_length]
  exact hI
 | k + 1, i, s, h, hI => by
  rw [Ih xs i z (by omega)]
  exact T6 z Inv step hi k (i + 1) _ (by omega) (hi i s (by omega) hI)
theorem P9 (s : Stt) : (Cy s).length ≤ 101 := by
 unfold Cy
 cases hv : Bf s with
 | false => simp
 | true =>
  have hl := Fh hv
  have := T6 zP Aoj Oq (xs := s.1) (fun i r hi hI => hI.step (by omega) _) s.1.length 0 ([], false, []) (by omega) ⟨by omega, by simp, fun q => by omega, by simp⟩
  simp only [cond_true]
  rw [Asv]
  have h1 := this.2.1
  show (Ajy 0 s.1 ([], false, [])).1.length + _ ≤ 101
  have h2 : (Ajy 0 s.1 ([], false, [])).2.1.toNat ≤ 1 := by cases (Ajy 0 s.1 ([], false, [])).2.1 <;> decide
  have h3 : (Ajy 0 s.1 ([], false, [])).1.length ≤ s.1.length := h1
  omega
def R9 (s : Stt) (w : Int) : Int := bif E9 w 1 8 then (((Cy s).map fun b => Eg (Ff b).size w).sum) else 0
theorem Ads {α : Type} (f : α → Int) : ∀ (l : List α) (i : Nat) (a : Int), Eu (fun _ b a => a + f b) i l a = a + (l.map f).sum
 | [], _, a => by simp [Eu]
 | x :: r, i, a => by
  show Eu _ (i + 1) r (a + f x) = _
  rw [Ads f r, List.map_cons, List.sum_cons]
  omega
theorem Azw {α : Type} (l : List α) : (l.map fun _ => (0 : Int)).sum = 0 := by
 induction l with
 | nil => rfl
 | cons x r ih => rw [List.map_cons, List.sum_cons, ih]; rfl
theorem Asx (s : Stt) (w : Int) : ((Cy s).map fun b => Eg (Ff b).size w).sum = R9 s w := by
 unfold R9
 cases hw : E9 w 1 8 with
 | true => rfl
 | false =>
  have : (fun b : List Chg => Eg (Ff b).size w) = fun _ => 0 := by funext b; unfold Eg; rw [hw]; rfl
  rw [this, Azw]
  rfl
def Axy (i : Nat) (a : Int) : Prop := i ≤ 101 ∧ 0 ≤ a ∧ a ≤ 5000 * (i : Int)
theorem Axy.step {i : Nat} {a : Int} (h : Axy i a) (hi : i < 101) (b : List Chg) (w : Int) : Axy (i + 1) (a + Eg (Ff b).size w) := by
 have h1 := Adr (Ff b).size w
 have h2 := Lg b
 obtain ⟨_, h3, h4⟩ := h
 exact ⟨by omega, by omega, by omega⟩
theorem Aj6 {i : Nat} {a : Int} (h : Axy i a) (b : List Chg) (w : Int) : IntKind.wrap IntKind.i64 (a + Eg (Ff b).size w) = a + Eg (Ff b).size w := by
 have h1 := Adr (Ff b).size w
 have h2 := Lg b
 obtain ⟨_, h3, h4⟩ := h
 exact Ad (by omega) (by omega)
def An (n : Int) : Int := bif E9 n 8 200 then (n - 2) / 2 else 0
theorem Afz {n : Int} (h1 : 8 ≤ n) (h2 : n ≤ 200) : IntKind.wrap IntKind.i64 (Int.tdiv (IntKind.wrap IntKind.i64 (n - 2)) 2) = (n - 2) / 2 := by
 rw [Ad (n := n - 2) (by omega) (by omega), Int.tdiv_eq_ediv_of_nonneg (by omega)]
 exact Ad (by omega) (by omega)
theorem Nr (n : Int) : 0 ≤ An n ∧ An n ≤ 99 := by
 unfold An
 cases h : E9 n 8 200 with
 | false => simp only [cond_false]; omega
 | true =>
  obtain ⟨h1, h2⟩ := Hb h
  simp only [cond_true]
  omega
theorem Af0 (n : Int) : IntKind.wrap IntKind.i64 (An n - 1) = An n - 1 := by
 have := Nr n
 exact Ad (by omega) (by omega)
def zSt : Sto := (0, 0, 0, (0, 0, 0, 0, ()), 0, 0, ([], ()), ())
def Asy (c : Int) : Don := (c, zSt, [], ())
def Awn : Opn := (true, 0, ⟨#[]⟩, ())
def Adt (at' : Int) (data : ByteArray) : Opn := (false, at', data, ())
abbrev tSt : Ty := .pair (.sl (.pair .str (.pair .str .unit))) .unit
abbrev tRt : Ty := .pair (.int .i64) (.pair (.int .i64) (.pair (.int .i64) (.pair (.int .i64) .unit)))
abbrev A3s : Ty := .pair (.int .i64) (.pair (.int .i64) (.pair (.int .i64) (.pair tRt (.pair (.int .i64) (.pair (.int .i64) (.pair tSt .unit))))))
abbrev tOp : Ty := .pair .bool (.pair (.int .i64) (.pair .str .unit))
abbrev A08 : Ty := .pair (.int .i64) (.pair A3s (.pair (.sl tOp) .unit))
theorem Agt {s : Stt} (h : Bf s = true) : ∀ p ∈ s.1, 1 ≤ p.1.size ∧ p.1.size ≤ 20 ∧ p.2.1.size ≤ 100 := fun p hp => by
 obtain ⟨i, hi, rfl⟩ := Xz zP hp
 have := T4 (Cj h).2 i hi
 unfold Ja at this
 obtain ⟨h1, h2⟩ := Cj this
 obtain ⟨h2, _⟩ := Cj h2
 have h3 := Hb h1
 exact ⟨by omega, by omega, of_decide_eq_true h2⟩
theorem Aj7 {s : Stt} (h : Bf s = true) : Ha tSt s = true := by
 have hl := Fh h
 show ((decide (s.1.length ≤ 1073741824) && List.all s.1 (Ha (.pair .str (.pair .str .unit)))) && true) = true
 rw [decide_eq_true (show s.1.length ≤ 1073741824 by omega), Bool.true_and, Bool.and_true]
 refine List.all_eq_true.2 fun p hp => ?_
 obtain ⟨_, h1, h2⟩ := Agt h p hp
 show (decide (p.1.size ≤ 1073741824) && (decide (p.2.1.size ≤ 1073741824) && true)) = true
 rw [decide_eq_true (show p.1.size ≤ 1073741824 by omega), decide_eq_true (show p.2.1.size ≤ 1073741824 by omega)]
 rfl
theorem Aok {c w n l u o : Int} {r : Rt} {s : Stt} {ops : List Opn} (hs : Ha tSt s = true) (ho : Ha (.sl tOp) ops = true) : Ha A08 (c, (w, n, l, r, u, o, s, ()), ops, ()) = true := by
 show ((Ha tSt s && true) && (Ha (.sl tOp) ops && true)) = true
 rw [hs, ho]
 rfl
abbrev ScT := Int × Int × ByteArray × List ByteArray × Int × Int
def Aj8 (wk wl : Int) (p : Pg) : Bool := bif decide (p.2.1 < wl) then false else bif p.1 == 3 then wk != 1 else bif p.1 == 1 || p.1 == 2 then wk != 1 || wl == p.2.1 else false
def Jw (i : Int) (p : Pg) (s : ScT) : ScT :=
 bif p.1 == 1 then (1, p.2.1, s.2.2.1 ++ p.2.2.2.1, s.2.2.2.1, s.2.2.2.2.1, s.2.2.2.2.2)
 else bif p.1 == 2 then (2, p.2.1, z0, s.2.2.2.1 ++ [s.2.2.1 ++ p.2.2.2.1], i + 1, p.2.1)
 else (p.1, p.2.1, z0, s.2.2.2.1, i + 1, p.2.1)
def Awo (s : ScT) : Scd := (s.2.2.2.1, s.2.2.2.2.1, s.2.2.2.2.2, ())
def Adu (w first i : Int) (s : ScT) (x : ByteArray) : Bool := (Cm x w).2 && (((Cm x w).1.2.2.1 - i == first) && Aj8 s.1 s.2.1 (Cm x w).1)
def Lh (w first : Int) : List ByteArray → Int → ScT → Scd
 | [], _, s => Awo s
 | x :: r, i, s => bif Adu w first i s x then Lh w first r (i + 1) (Jw i (Cm x w).1 s) else Awo s
def seen (d : Dk) (a : Int) (k n : Nat) : List ByteArray := (List.range' k n).map fun k : Nat => Pz d (a + (k : Int))
def Sa (d : Dk) (from_ size first life w : Int) : Scd :=
 bif B8 d && (E9 w 1 8 && (decide (0 ≤ from_) && (decide (0 ≤ size) && (decide (from_ ≤ (d.1.length : Int)) && decide (size ≤ (d.1.length : Int) - from_))))) then Lh w first (seen d from_ 0 size.toNat) 0 (0, life, z0, [], 0, life) else ([], 0, 0, ())
theorem Azx {d : Dk} (hd : Ld d) {a : Int} {j : Nat} (hj : j < d.1.length) (ha : a = (j : Int) := by omega) : List.getD (Kk d.1 d.2.1) j (ByteArray.mk #[]) = Pz d a := by
 subst ha
 have := Asi d.1 j hj d.2.1 (fun w hw => by
  obtain ⟨i, hi, rfl⟩ := Xz zW hw
  exact (hd.pen i hi).1)
 unfold Pz
 rw [Int.toNat_natCast]
 exact this
theorem Aii {x : ByteArray} {w : Int} {p : Pg} (h : Cm x w = (p, true)) : (1 ≤ p.1 ∧ p.1 ≤ 4) ∧ (1 ≤ p.2.2.1 ∧ p.2.2.1 ≤ 1000000000) ∧ p.2.2.2.1.size ≤ 64 := by
 obtain ⟨_, _, _, h4⟩ := Qo h
 obtain ⟨k1, _, k3⟩ := X3 h4
 obtain ⟨_, w1, w2, k4⟩ := Ql h4
 exact ⟨k1, k3, by omega⟩
def Wh (i : Nat) (s : ScT) : Prop := i ≤ 200 ∧ s.2.2.1.size ≤ 64 * i ∧ s.2.2.2.1.length ≤ i
theorem Wh.zero (a b c l : Int) : Wh 0 (a, b, z0, [], c, l) := ⟨by omega, Nat.le_refl 0, Nat.le_refl 0⟩
theorem Wh.next {i : Nat} {s : ScT} {p : Pg} (h : Wh i s) (hi : i < 200) (hp : p.2.2.2.1.size ≤ 64) : Wh (i + 1) (Jw i p s) := by
 obtain ⟨_, h2, h3⟩ := h
 unfold Jw
 cases (p.1 == 1)
 ·cases (p.1 == 2)
  ·exact ⟨by omega, Nat.zero_le _, by simp only [cond_false]; omega⟩
  ·refine ⟨by omega, Nat.zero_le _, ?_⟩
   simp only [cond_false, cond_true, List.length_append, List.length_singleton]
   omega
 ·refine ⟨by omega, ?_, by simp only [cond_true]; omega⟩
  simp only [cond_true, ByteArray.size_append]
  omega
abbrev tSc : Ty := .pair (.sl .str) (.pair (.int .i64) (.pair (.int .i64) .unit))
theorem Aj9 {l : List ByteArray} {n : Nat} (h1 : l.length ≤ 1000000) (h2 : ∀ x ∈ l, x.size ≤ n) (hn : n ≤ 1000000) : Ha (.sl .str) l = true := by
 show (decide (l.length ≤ 1073741824) && List.all l (fun x => decide (ByteArray.size x ≤ 1073741824))) = true
 rw [decide_eq_true (by omega), Bool.true_and]
 exact List.all_eq_true.2 fun x hx => decide_eq_true (by have := h2 x hx; omega)
theorem Af1 (w first : Int) : ∀ (l : List ByteArray) (i : Nat) (st : ScT), i + l.length ≤ 200 → Wh i st → (∀ x ∈ st.2.2.2.1, x.size ≤ 12864) → Ha tSc (Lh w first l i st) = true
 | [], i, st, h, hI, he => by
  show (Ha (.sl .str) st.2.2.2.1 && true) = true
  rw [Aj9 (by have := hI.2.2; omega) he (by decide)]
  rfl
 | x :: r, i, st, h, hI, he => by
  rw [List.length_cons] at h
  unfold Lh
  cases hs : Adu w first i st x with
  | false =>
   show (Ha (.sl .str) st.2.2.2.1 && true) = true
   rw [Aj9 (by have := hI.2.2; omega) he (by decide)]
   rfl
  | true =>
   obtain ⟨hr, _⟩ := Cj hs
   obtain ⟨p, ok, hR⟩ : ∃ p ok, Cm x w = (p, ok) := ⟨_, _, rfl⟩
   rw [hR] at hr
   have hr : ok = true := hr
   subst hr
   obtain ⟨_, _, q3⟩ := Aii hR
   rw [hR]
   have hN := hI.next (p := p) (by omega) q3
   refine Af1 w first r (i + 1) _ (by omega) hN fun y hy => ?_
   unfold Jw at hy
   cases h1 : (p.1 == 1) with
   | true => rw [h1] at hy; exact he y hy
   | false =>
    rw [h1] at hy
    cases h2 : (p.1 == 2) with
    | false => rw [h2] at hy; exact he y hy
    | true =>
     rw [h2] at hy
     simp only [cond_false, cond_true, List.mem_append, List.mem_singleton] at hy
     rcases hy with hy | rfl
     ·exact he y hy
     ·rw [ByteArray.size_append]
      have := hI.2.1
      omega
theorem Asz (d : Dk) (a : Int) (k n : Nat) : (seen d a k n).length = n := by simp [seen]
theorem Aka (d : Dk) (f n first life w : Int) : Ha tSc (Sa d f n first life w) = true := by
 unfold Sa
 cases hc : (B8 d && (E9 w 1 8 && (decide (0 ≤ f) && (decide (0 ≤ n) && (decide (f ≤ (d.1.length : Int)) && decide (n ≤ (d.1.length : Int) - f)))))) with
 | false => rfl
 | true =>
  obtain ⟨hv, h⟩ := Cj hc
  obtain ⟨_, h⟩ := Cj h
  obtain ⟨h1, h⟩ := Cj h
  obtain ⟨h2, h⟩ := Cj h
  obtain ⟨h3, h4⟩ := Cj h
  have h1 := of_decide_eq_true h1
  have h2 := of_decide_eq_true h2
  have h4 := of_decide_eq_true h4
  have := (Aay hv).n200
  exact Af1 w first _ 0 _ (by rw [Asz]; omega) (Wh.zero _ _ _ _) (fun x hx => by cases hx)
def zSs : Stt := ([], ())
theorem Td {α β : Type} {x : Option α} {y : α} {f : α → Option β} {z : Option β} (h : x = some y) (k : f y = z) : x.bind f = z := by rw [h]; exact k
def Hn : Int → List ByteArray → List Opn
 | _, [] => []
 | a, x :: r => Adt a x :: Hn (a + 1) r
theorem Aol (x : ByteArray) : ∀ (L : List ByteArray) (a : Int), Hn a (L ++ [x]) = Hn a L ++ [Adt (a + (L.length : Int)) x]
 | [], a => by show [Adt a x] = [Adt (a + (0 : Int)) x]; rw [Int.add_zero]
 | y :: L, a => by
  show Adt a y :: Hn (a + 1) (L ++ [x]) = Adt a y :: (Hn (a + 1) L ++ [Adt (a + ((L.length + 1 : Nat) : Int)) x])
  rw [Aol x L (a + 1), show a + 1 + (L.length : Int) = a + ((L.length + 1 : Nat) : Int) by omega]
theorem T7 : ∀ (L : List ByteArray) (a : Int), (Hn a L).length = L.length
 | [], _ => rfl
 | _ :: L, a => by show (Hn (a + 1) L).length + 1 = L.length + 1; rw [T7 L]
theorem Aom (a : Int) : ∀ (L : List ByteArray) (i : Nat) (r : List Opn), Eu (fun (i : Nat) x r => r ++ [Adt (a + (i : Int)) x]) i L r = r ++ Hn (a + (i : Int)) L
 | [], i, r => (List.append_nil r).symm
 | x :: L, i, r => by
  show Eu _ (i + 1) L (r ++ [Adt (a + (i : Int)) x]) = _
  rw [Aom a L (i + 1), List.append_assoc, show a + ((i + 1 : Nat) : Int) = a + (i : Int) + 1 by omega]
  rfl
theorem Akb {α : Type} : ∀ (L : List α) (i : Nat) (r : List α), Eu (fun (_ : Nat) x r => r ++ [x]) i L r = r ++ L
 | [], i, r => (List.append_nil r).symm
 | x :: L, i, r => by
  show Eu _ (i + 1) L (r ++ [x]) = _
  rw [Akb L (i + 1), List.append_assoc]
  rfl
def Bv (h n : Int) : Int := 2 + h * An n
def A1x (s : Sto) (life : Int) : Rt := (s.2.2.2.1.1 + 1, 1 - s.2.2.2.1.2.1, s.2.2.2.1.2.2.1 + An s.2.1, life, ())
def Qp (w life first : Int) (b : List Chg) (L : List ByteArray) : List ByteArray := L ++ Adn (Ff b) life (first + (L.length : Int)) w
def mvL (s : Sto) (life : Int) : List ByteArray := Eu (fun _ b L => Qp s.1 life (s.2.2.2.1.2.2.1 + An s.2.1) b L) 0 (Cy s.2.2.2.2.2.2.1) [Db (3, life, s.2.2.2.1.2.2.1 + An s.2.1, z0, ()) s.1]
def As0 (s : Sto) (life : Int) : List Opn := Hn (Bv (1 - s.2.2.2.1.2.1) s.2.1) (mvL s life) ++ [Awn, Adt (Int.tmod (s.2.2.2.1.1 + 1) 2) (Qk (A1x s life) s.1), Awn]
def Aa0 (s : Sto) (life : Int) : Sto × List Opn × Bool :=
 bif decide (s.2.2.2.1.1 + 1 > 1000000000) then (zSt, [], false) else bif decide (s.2.2.2.1.2.2.1 + An s.2.1 > 999999000) then (zSt, [], false) else
 ((s.1, s.2.1, life, A1x s life, nI (mvL s life).length, 0, s.2.2.2.2.2.2.1, ()), As0 s life, true)
def Ap2 (s : Sto) : Prop := (0 ≤ s.2.2.2.1.1 ∧ s.2.2.2.1.1 ≤ 1000000000) ∧ (0 ≤ s.2.2.2.1.2.1 ∧ s.2.2.2.1.2.1 ≤ 1) ∧ (0 ≤ s.2.2.2.1.2.2.1 ∧ s.2.2.2.1.2.2.1 ≤ 1000000000) ∧ s.2.2.2.2.2.2.1.1.length ≤ 1000000
instance (s : Sto) : Decidable (Ap2 s) := by unfold Ap2; infer_instance
theorem Ap3 (b : List Chg) (life f w : Int) : (Adn (Ff b) life f w).length ≤ 4001 := by
 unfold Adn
 cases hw : E9 w 1 8 with
 | false => simp
 | true =>
  cases hc : (true && (E9 life 1 60000 && (decide (1 ≤ f) && decide (f ≤ 1000000000 - Eg (Ff b).size w + 1)))) with
  | false => simp
  | true =>
   simp only [cond_true]
   rw [R8, List.length_map, List.length_range']
   have h1 := Asw (Ff b) w
   rw [hw, cond_true] at h1
   have h2 := (Adr (Ff b).size w).2
   have h3 := Lg b
   omega
def MvI (i : Nat) (L : List ByteArray) : Prop := i ≤ 101 ∧ L.length ≤ 1 + 4001 * i
theorem MvI.step {i : Nat} {L : List ByteArray} (h : MvI i L) (hi : i < 101) (w life first : Int) (b : List Chg) : MvI (i + 1) (Qp w life first b L) := by
 obtain ⟨h1, h2⟩ := h
 refine ⟨by omega, ?_⟩
 unfold Qp
 have := Ap3 b life (first + (L.length : Int)) w
 rw [List.length_append]
 omega
theorem Aij (s : Sto) (life : Int) : (mvL s life).length ≤ 500000 := by
 have h := T6 ([] : List Chg) MvI (fun _ b L => Qp s.1 life (s.2.2.2.1.2.2.1 + An s.2.1) b L) (xs := Cy s.2.2.2.2.2.2.1) (fun i L hi hI => hI.step (Nat.lt_of_lt_of_le hi (P9 _)) _ _ _ _) (Cy s.2.2.2.2.2.2.1).length 0 [Db (3, life, s.2.2.2.1.2.2.1 + An s.2.1, z0, ()) s.1] (by omega) ⟨by omega, by simp⟩
 have h2 := P9 s.2.2.2.2.2.2.1
 have h3 := h.2
 have h4 : (mvL s life).length ≤ 1 + 4001 * (Cy s.2.2.2.2.2.2.1).length := h3
 omega
def Af2 (s : Sto) : Don := bif (Aa0 s s.2.2.1).2.2 then (0, (Aa0 s s.2.2.1).1, (Aa0 s s.2.2.1).2.1, ()) else Asy 4
theorem Aik {H n : Int} (hH : 0 ≤ H ∧ H ≤ 1) : 0 ≤ H * An n ∧ H * An n ≤ 99 := by
 have hh := Nr n
 have : H = 0 ∨ H = 1 := by omega
 rcases this with rfl | rfl <;> omega
theorem Akc : ∀ (L : List ByteArray) (a : Int), (∀ x ∈ L, x.size ≤ 64) → ∀ o ∈ Hn a L, o.2.2.1.size ≤ 64
 | [], _, _, o, ho => by cases ho
 | x :: L, a, h, o, ho => by
  rcases List.mem_cons.1 ho with rfl | q
  ·exact h x List.mem_cons_self
  ·exact Akc L (a + 1) (fun y hy => h y (List.mem_cons_of_mem _ hy)) o q
theorem A1a {o : Opn} (h : o.2.2.1.size ≤ 1073741824) : Ha tOp o = true := by
 show (true && (true && (decide (o.2.2.1.size ≤ 1073741824) && true))) = true
 rw [decide_eq_true h]
 rfl
theorem As1 {L : List Opn} (h1 : L.length ≤ 1073741824) (h2 : ∀ o ∈ L, o.2.2.1.size ≤ 64) : Ha (.sl tOp) L = true := by
 show (decide (L.length ≤ 1073741824) && List.all L (Ha tOp)) = true
 rw [decide_eq_true h1, Bool.true_and]
 exact List.all_eq_true.2 fun o ho => A1a (Nat.le_trans (h2 o ho) (by decide))
theorem Au6 (r : Rt) (w : Int) : (Qk r w).size ≤ 64 := by
 unfold Qk
 cases L9 r with
 | false => exact Nat.zero_le _
 | true => exact V0 _ _
theorem Axz {e : ByteArray} {life f w : Int} {x : ByteArray} (h : x ∈ Adn e life f w) : x.size ≤ 64 := by
 unfold Adn at h
 cases hc : E9 w 1 8 && (E9 life 1 60000 && (decide (1 ≤ f) && decide (f ≤ 1000000000 - Eg e.size w + 1))) with
 | false => rw [hc] at h; simp at h
 | true => rw [hc] at h; exact (Au4 _ _ _ _).2 x h
theorem Azy (s : Sto) (life : Int) : ∀ x ∈ mvL s life, x.size ≤ 64 := by
 have h := T6 ([] : List Chg) (fun _ (L : List ByteArray) => ∀ x ∈ L, x.size ≤ 64) (fun _ b L => Qp s.1 life (s.2.2.2.1.2.2.1 + An s.2.1) b L) (xs := Cy s.2.2.2.2.2.2.1) (fun i L _ hI x hx => by
  unfold Qp at hx
  rcases List.mem_append.1 hx with q | q
  ·exact hI x q
  ·exact Axz q) (Cy s.2.2.2.2.2.2.1).length 0 [Db (3, life, s.2.2.2.1.2.2.1 + An s.2.1, z0, ()) s.1] (by omega) (fun x hx => by rw [List.mem_singleton.1 hx]; exact V0 _ _)
 exact h
theorem Au7 (s : Sto) (life : Int) : Ha (.sl tOp) (As0 s life) = true := by
 have hl := Aij s life
 have h1 : (As0 s life).length = (mvL s life).length + 3 := by unfold As0; rw [List.length_append, T7]; rfl
 refine As1 (by omega) fun o ho => ?_
 unfold As0 at ho
 rcases List.mem_append.1 ho with q | q
 ·exact Akc _ _ (Azy s life) o q
 ·simp only [List.mem_cons, List.not_mem_nil, or_false] at q
  rcases q with rfl | rfl | rfl
  ·exact Nat.zero_le _
  ·exact Au6 _ _
  ·exact Nat.zero_le _
theorem Au8 {s : Sto} (h : Ha tSt s.2.2.2.2.2.2.1 = true) : Ha A08 (Af2 s) = true := by
 unfold Af2 Aa0
 cases decide (s.2.2.2.1.1 + 1 > 1000000000) with
 | true => rfl
 | false =>
  cases decide (s.2.2.2.1.2.2.1 + An s.2.1 > 999999000) with
  | true => rfl
  | false => exact Aok h (Au7 s s.2.2.1)
end Go.Proofs.YteaoabdlcefkhaaGreat.V

