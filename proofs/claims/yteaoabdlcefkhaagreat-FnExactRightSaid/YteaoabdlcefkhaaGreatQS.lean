/- Plain facts, second part. No condition. -/
import Derived.Test.YteaoabdlcefkhaaGreatQBase
namespace Go.Proofs.YteaoabdlcefkhaaGreat.V
open Go Go.Proofs.YteaoabdlcefkhaaGreat.R
set_option linter.unusedVariables false
set_option linter.unusedSimpArgs false
theorem Fq {α σ E : Type} {xs : List α} (z : α) (Inv : Nat → σ → Prop) (step : Nat → α → σ → σ) {g : Nat → Int → σ → Option E} {ok : σ → E}
  (hs : ∀ m (i : Nat) s, i < xs.length → Inv i s → g (m + 1) i s = g m ((i + 1 : Nat) : Int) (step i (xs.getD i z) s))
  (hi : ∀ i s, i < xs.length → Inv i s → Inv (i + 1) (step i (xs.getD i z) s))
  (he : ∀ m s, Inv xs.length s → g (m + 1) (xs.length : Int) s = some (ok s)) :
  ∀ (m i : Nat) s, i ≤ xs.length → xs.length - i < m → Inv i s → g m i s = some (ok (Fb step i (xs.drop i) s))
 | 0, i, s, _, hm, _ => by omega
 | m + 1, i, s, hl, hm, hI => by
  by_cases h : i < xs.length
  ·rw [hs m i s h hI, Fq z Inv step hs hi he m (i + 1) _ (by omega) (by omega) (hi i s h hI), Iw xs i z h]
   rfl
  ·have : i = xs.length := by omega
   subst this
   rw [he _ _ hI, List.drop_length]
   rfl
theorem Asj (n : Nat) (h : n < 1099511627776) : IntKind.wrap IntKind.i64 (nI (n + 1) - 1) = (n : Int) := by
 simp only [nI]
 rw [Ag (by omega) (by omega)]
 omega
theorem A12 (i : Nat) : (Int.tmod (i : Int) 20 == 0) = (i % 20 == 0) := by
 have : Int.tmod (i : Int) 20 = ((i % 20 : Nat) : Int) := by rw [Int.tmod_eq_emod_of_nonneg (by omega)]; omega
 rw [this]
 by_cases h : i % 20 = 0
 ·rw [h]; rfl
 ·rw [beq_eq_false_iff_ne.2 h]
  exact beq_eq_false_iff_ne.2 (by omega)
theorem Ava {α : Type} (c : Bool) (xs : List α) (y : α) : (Wj c xs y).length = xs.length + c.toNat := by cases c <;> simp [Wj]
def Aq5 (i : Nat) (s : List (List Chg) × Bool × List Chg) : Prop := i ≤ 100 ∧ s.1.length ≤ i ∧ (0 < i → s.2.1 = true) ∧ s.2.2.length ≤ i
theorem Aq5.step {i : Nat} {s : List (List Chg) × Bool × List Chg} (h : Aq5 i s) (h1 : i < 100) (p : Pr2) : Aq5 (i + 1) (P4 i p s) := by
 obtain ⟨_, h2, h3, h4⟩ := h
 unfold P4
 cases hc : (i % 20 == 0)
 ·have : 0 < i := Nat.pos_of_ne_zero fun q => by subst q; cases hc
  refine ⟨by omega, by simp only [cond_false]; omega, fun _ => h3 this, ?_⟩
  simp only [cond_false, List.length_append, List.length_singleton]
  omega
 ·refine ⟨by omega, ?_, fun _ => rfl, by simp⟩
  simp only [cond_true]
  rw [Ava]
  by_cases q : 0 < i
  ·rw [h3 q]; simp; omega
  ·cases s.2.1 <;> simp <;> omega
theorem D2 {s : Stt} (h : Aq s = true) : s.1.length ≤ 100 := of_decide_eq_true (Cj h).1
theorem Avb (s : ByteArray) (w : Int) : (bif Eo w 1 8 then ((Cs s w).length : Int) else 0) = Fg s.size w := by
 unfold Fg
 cases hw : Eo w 1 8 with
 | false => rfl
 | true => exact Aav hw
theorem Aff (n : Nat) (w : Int) : 0 ≤ Fg n w ∧ Fg n w ≤ (n : Int) + 1 := by
 unfold Fg
 cases hw : Eo w 1 8 with
 | false => exact ⟨Int.le_refl _, by simp only [cond_false]; omega⟩
 | true =>
  obtain ⟨h1, h2⟩ := G4 hw
  simp only [cond_true]
  have hc : w = 1 ∨ w = 2 ∨ w = 3 ∨ w = 4 ∨ w = 5 ∨ w = 6 ∨ w = 7 ∨ w = 8 := by omega
  rcases hc with rfl | rfl | rfl | rfl | rfl | rfl | rfl | rfl <;> split <;> omega
theorem Axl {b : List Chg} (h : ∀ c ∈ b, Nk c = true) : (Gp b).length ≤ 200 * b.length := by
 induction b with
 | nil => simp [Gp]
 | cons c r ih =>
  have h1 := (Tn (h c (by simp))).2
  have h2 := ih fun c hc => h c (by simp [hc])
  have e : Gp (c :: r) = Re c ++ Gp r := rfl
  rw [e, List.length_append, List.length_cons]
  omega
theorem Mj (b : List Chg) : (F4 b).size ≤ 4000 := by
 unfold F4
 cases hv : Bg b with
 | false => exact Nat.zero_le _
 | true =>
  obtain ⟨_, h2, h3⟩ := Afe hv
  have := Axl h3
  show (strOfNums (Gp b)).size ≤ 4000
  rw [E1]
  omega
theorem l9 {α σ : Type} (z : α) (Inv : Nat → σ → Prop) (step : Nat → α → σ → σ) {xs : List α} (hi : ∀ i s, i < xs.length → Inv i s → Inv (i + 1) (step i (xs.getD i z) s)) :
  ∀ (k i : Nat) s, i + k = xs.length → Inv i s → Inv xs.length (Fb step i (xs.drop i) s)
 | 0, i, s, h, hI => by
  have : i = xs.length := by omega
  subst this
  rw [List.drop_length]
  exact hI
 | k + 1, i, s, h, hI => by
  rw [Iw xs i z (by omega)]
  exact l9 z Inv step hi k (i + 1) _ (by omega) (hi i s (by omega) hI)
theorem Rn (s : Stt) : (Dg s).length ≤ 101 := by
 unfold Dg
 cases hv : Aq s with
 | false => simp
 | true =>
  have hl := D2 hv
  have := l9 zP Aq5 P4 (xs := s.1) (fun i r hi hI => hI.step (by omega) _) s.1.length 0 ([], false, []) (by omega) ⟨by omega, by simp, fun q => by omega, by simp⟩
  simp only [cond_true]
  rw [Ava]
  have h1 := this.2.1
  show (Al3 0 s.1 ([], false, [])).1.length + _ ≤ 101
  have h2 : (Al3 0 s.1 ([], false, [])).2.1.toNat ≤ 1 := by cases (Al3 0 s.1 ([], false, [])).2.1 <;> decide
  have h3 : (Al3 0 s.1 ([], false, [])).1.length ≤ s.1.length := h1
  omega
def R5 (s : Stt) (w : Int) : Int := bif Eo w 1 8 then (((Dg s).map fun b => Fg (F4 b).size w).sum) else 0
theorem Afg {α : Type} (f : α → Int) : ∀ (l : List α) (i : Nat) (a : Int), Fb (fun _ b a => a + f b) i l a = a + (l.map f).sum
 | [], _, a => by simp [Fb]
 | x :: r, i, a => by
  show Fb _ (i + 1) r (a + f x) = _
  rw [Afg f r, List.map_cons, List.sum_cons]
  omega
theorem A13 {α : Type} (l : List α) : (l.map fun _ => (0 : Int)).sum = 0 := by
 induction l with
 | nil => rfl
 | cons x r ih => rw [List.map_cons, List.sum_cons, ih]; rfl
theorem Avc (s : Stt) (w : Int) : ((Dg s).map fun b => Fg (F4 b).size w).sum = R5 s w := by
 unfold R5
 cases hw : Eo w 1 8 with
 | true => rfl
 | false =>
  have : (fun b : List Chg => Fg (F4 b).size w) = fun _ => 0 := by funext b; unfold Fg; rw [hw]; rfl
  rw [this, A13]
  rfl
def A0a (i : Nat) (a : Int) : Prop := i ≤ 101 ∧ 0 ≤ a ∧ a ≤ 5000 * (i : Int)
theorem A0a.step {i : Nat} {a : Int} (h : A0a i a) (hi : i < 101) (b : List Chg) (w : Int) : A0a (i + 1) (a + Fg (F4 b).size w) := by
 have h1 := Aff (F4 b).size w
 have h2 := Mj b
 obtain ⟨_, h3, h4⟩ := h
 exact ⟨by omega, by omega, by omega⟩
theorem Al9 {i : Nat} {a : Int} (h : A0a i a) (b : List Chg) (w : Int) : IntKind.wrap IntKind.i64 (a + Fg (F4 b).size w) = a + Fg (F4 b).size w := by
 have h1 := Aff (F4 b).size w
 have h2 := Mj b
 obtain ⟨_, h3, h4⟩ := h
 exact Ag (by omega) (by omega)
def An (n : Int) : Int := bif Eo n 8 200 then (n - 2) / 2 else 0
theorem Ahl {n : Int} (h1 : 8 ≤ n) (h2 : n ≤ 200) : IntKind.wrap IntKind.i64 (Int.tdiv (IntKind.wrap IntKind.i64 (n - 2)) 2) = (n - 2) / 2 := by
 rw [Ag (n := n - 2) (by omega) (by omega), Int.tdiv_eq_ediv_of_nonneg (by omega)]
 exact Ag (by omega) (by omega)
theorem M5 (n : Int) : 0 ≤ An n ∧ An n ≤ 99 := by
 unfold An
 cases h : Eo n 8 200 with
 | false => simp only [cond_false]; omega
 | true =>
  obtain ⟨h1, h2⟩ := G4 h
  simp only [cond_true]
  omega
def Ji (s : Sto) : Bool := decide (0 < An s.2.1) && (Eo s.1 1 8 && (Eo s.2.2.1 1 60000 && (Eo s.2.2.2.1.1 0 1000000000 && (Me s.2.2.2.1 && (Eo s.2.2.2.1.2.2.2.1 0 60000 && (Eo s.2.2.2.2.1 0 (An s.2.1) && (Eo s.2.2.2.2.2.1 0 s.2.2.2.2.1 && (Aq s.2.2.2.2.2.2.1 && decide (R5 s.2.2.2.2.2.2.1 s.1 ≤ An s.2.1 - 1)))))))))
theorem A3f (a b : Bool) : (bif a then some ((b, ()), ()) else some ((false, ()), ())) = (some ((a && b, ()), ()) : Option ((Bool × Unit) × Unit)) := by cases a <;> rfl
theorem A5u (a b : Bool) : (bif !a then some ((false, ()), ()) else some ((b, ()), ())) = (some ((a && b, ()), ()) : Option ((Bool × Unit) × Unit)) := by cases a <;> rfl
theorem To (n : Int) : IntKind.wrap IntKind.i64 (An n - 1) = An n - 1 := by
 have := M5 n
 exact Ag (by omega) (by omega)
theorem Avd (n : Int) (b : Bool) : (bif An n == 0 then some ((false, ()), ()) else some ((b, ()), ())) = (some ((decide (0 < An n) && b, ()), ()) : Option ((Bool × Unit) × Unit)) := by
 have := M5 n
 by_cases h : An n = 0
 ·rw [h]; rfl
 ·rw [beq_eq_false_iff_ne.2 h, decide_eq_true (by omega)]; rfl
def zSt : Sto := (0, 0, 0, (0, 0, 0, 0, ()), 0, 0, ([], ()), ())
def Ave (c : Int) : Don := (c, zSt, [], ())
def Ay0 : Opn := (true, 0, ⟨#[]⟩, ())
def Afh (at' : Int) (data : ByteArray) : Opn := (false, at', data, ())
abbrev ScT := Int × Int × ByteArray × List ByteArray × Int × Int
def Ama (wk wl : Int) (p : Pg) : Bool := bif decide (p.2.1 < wl) then false else bif p.1 == 3 then wk != 1 else bif p.1 == 1 || p.1 == 2 then wk != 1 || wl == p.2.1 else false
def Kr (i : Int) (p : Pg) (s : ScT) : ScT :=
 bif p.1 == 1 then (1, p.2.1, s.2.2.1 ++ p.2.2.2.1, s.2.2.2.1, s.2.2.2.2.1, s.2.2.2.2.2)
 else bif p.1 == 2 then (2, p.2.1, z0, s.2.2.2.1 ++ [s.2.2.1 ++ p.2.2.2.1], i + 1, p.2.1)
 else (p.1, p.2.1, z0, s.2.2.2.1, i + 1, p.2.1)
def Ay1 (s : ScT) : Scd := (s.2.2.2.1, s.2.2.2.2.1, s.2.2.2.2.2, ())
def Afi (w first i : Int) (s : ScT) (x : ByteArray) : Bool := (Cw x w).2 && (((Cw x w).1.2.2.1 - i == first) && Ama s.1 s.2.1 (Cw x w).1)
def Mk (w first : Int) : List ByteArray → Int → ScT → Scd
 | [], _, s => Ay1 s
 | x :: r, i, s => bif Afi w first i s x then Mk w first r (i + 1) (Kr i (Cw x w).1 s) else Ay1 s
def seen (d : Dk) (a : Int) (k n : Nat) : List ByteArray := (List.range' k n).map fun k : Nat => Rd d (a + (k : Int))
def Tp (d : Dk) (from_ size first life w : Int) : Scd :=
 bif Bp d && (Eo w 1 8 && (decide (0 ≤ from_) && (decide (0 ≤ size) && (decide (from_ ≤ (d.1.length : Int)) && decide (size ≤ (d.1.length : Int) - from_))))) then Mk w first (seen d from_ 0 size.toNat) 0 (0, life, z0, [], 0, life) else ([], 0, 0, ())
theorem A14 {d : Dk} (hd : Mh d) {a : Int} {j : Nat} (hj : j < d.1.length) (ha : a = (j : Int) := by omega) : List.getD (Lg d.1 d.2.1) j (ByteArray.mk #[]) = Rd d a := by
 subst ha
 have := Aux d.1 j hj d.2.1 (fun w hw => by
  obtain ⟨i, hi, rfl⟩ := Ac0 zW hw
  exact (hd.pen i hi).1)
 unfold Rd
 rw [Int.toNat_natCast]
 exact this
theorem Ako {x : ByteArray} {w : Int} {p : Pg} (h : Cw x w = (p, true)) : (1 ≤ p.1 ∧ p.1 ≤ 4) ∧ (1 ≤ p.2.2.1 ∧ p.2.2.1 ≤ 1000000000) ∧ p.2.2.2.1.size ≤ 64 := by
 obtain ⟨_, _, _, h4⟩ := R4 h
 obtain ⟨k1, _, k3⟩ := Zl h4
 obtain ⟨_, w1, w2, k4⟩ := R1 h4
 exact ⟨k1, k3, by omega⟩
def Xs (i : Nat) (s : ScT) : Prop := i ≤ 200 ∧ s.2.2.1.size ≤ 64 * i ∧ s.2.2.2.1.length ≤ i
theorem Xs.zero (a b c l : Int) : Xs 0 (a, b, z0, [], c, l) := ⟨by omega, Nat.le_refl 0, Nat.le_refl 0⟩
theorem Xs.next {i : Nat} {s : ScT} {p : Pg} (h : Xs i s) (hi : i < 200) (hp : p.2.2.2.1.size ≤ 64) : Xs (i + 1) (Kr i p s) := by
 obtain ⟨_, h2, h3⟩ := h
 unfold Kr
 cases (p.1 == 1)
 ·cases (p.1 == 2)
  ·exact ⟨by omega, Nat.zero_le _, by simp only [cond_false]; omega⟩
  ·refine ⟨by omega, Nat.zero_le _, ?_⟩
   simp only [cond_false, cond_true, List.length_append, List.length_singleton]
   omega
 ·refine ⟨by omega, ?_, by simp only [cond_true]; omega⟩
  simp only [cond_true, ByteArray.size_append]
  omega
abbrev tSc : Ty := .pair (.sl .str) (.pair (.int .i64) (.pair (.int .i64) .unit))
theorem Amb {l : List ByteArray} {n : Nat} (h1 : l.length ≤ 1000000) (h2 : ∀ x ∈ l, x.size ≤ n) (hn : n ≤ 1000000) : Ahi (.sl .str) l = true := by
 show (decide (l.length ≤ 1073741824) && List.all l (fun x => decide (ByteArray.size x ≤ 1073741824))) = true
 rw [decide_eq_true (by omega), Bool.true_and]
 exact List.all_eq_true.2 fun x hx => decide_eq_true (by have := h2 x hx; omega)
theorem Ahm (w first : Int) : ∀ (l : List ByteArray) (i : Nat) (st : ScT), i + l.length ≤ 200 → Xs i st → (∀ x ∈ st.2.2.2.1, x.size ≤ 12864) → Ahi tSc (Mk w first l i st) = true
 | [], i, st, h, hI, he => by
  show (Ahi (.sl .str) st.2.2.2.1 && true) = true
  rw [Amb (by have := hI.2.2; omega) he (by decide)]
  rfl
 | x :: r, i, st, h, hI, he => by
  rw [List.length_cons] at h
  unfold Mk
  cases hs : Afi w first i st x with
  | false =>
   show (Ahi (.sl .str) st.2.2.2.1 && true) = true
   rw [Amb (by have := hI.2.2; omega) he (by decide)]
   rfl
  | true =>
   obtain ⟨hr, _⟩ := Cj hs
   obtain ⟨p, ok, hR⟩ : ∃ p ok, Cw x w = (p, ok) := ⟨_, _, rfl⟩
   rw [hR] at hr
   have hr : ok = true := hr
   subst hr
   obtain ⟨_, _, q3⟩ := Ako hR
   rw [hR]
   have hN := hI.next (p := p) (by omega) q3
   refine Ahm w first r (i + 1) _ (by omega) hN fun y hy => ?_
   unfold Kr at hy
   cases h1 : (p.1 == 1) with
   | true => rw [h1] at hy; exact he y hy
   | false =>
    rw [h1] at hy
    cases h2 : (p.1 == 2) with
    | false => rw [h2] at hy; exact he y hy
    | true =>
     rw [h2] at hy
     simp only [cond_false, cond_true, List.mem_append, List.mem_singleton] at hy
     rcases hy with hy | rfl
     ·exact he y hy
     ·rw [ByteArray.size_append]
      have := hI.2.1
      omega
theorem Avf (d : Dk) (a : Int) (k n : Nat) : (seen d a k n).length = n := by simp [seen]
theorem Amc (d : Dk) (f n first life w : Int) : Ahi tSc (Tp d f n first life w) = true := by
 unfold Tp
 cases hc : (Bp d && (Eo w 1 8 && (decide (0 ≤ f) && (decide (0 ≤ n) && (decide (f ≤ (d.1.length : Int)) && decide (n ≤ (d.1.length : Int) - f)))))) with
 | false => rfl
 | true =>
  obtain ⟨hv, h⟩ := Cj hc
  obtain ⟨_, h⟩ := Cj h
  obtain ⟨h1, h⟩ := Cj h
  obtain ⟨h2, h⟩ := Cj h
  obtain ⟨h3, h4⟩ := Cj h
  have h1 := of_decide_eq_true h1
  have h2 := of_decide_eq_true h2
  have h4 := of_decide_eq_true h4
  have := (l6 hv).n200
  exact Ahm w first _ 0 _ (by rw [Avf]; omega) (Xs.zero _ _ _ _) (fun x hx => by cases hx)
def Rg (s : Sto) : Bool := s.1 == 0 && (s.2.1 == 0 && (s.2.2.1 == 0 && ((s.2.2.2.1.1 == 0 && (s.2.2.2.1.2.1 == 0 && (s.2.2.2.1.2.2.1 == 0 && s.2.2.2.1.2.2.2.1 == 0))) && (s.2.2.2.2.1 == 0 && (s.2.2.2.2.2.1 == 0 && (nI s.2.2.2.2.2.2.1.1.length == 0))))))
def Ys : Stt := ([], ())
def Vf (w : Wld) : Bool := bif w.2.2.1 then Ji w.2.2.2.1 && (w.2.2.2.1.1 == w.1 && w.2.2.2.1.2.1 == nI w.2.1.1.length) else Rg w.2.2.2.1
def R6 (w : Wld) : Bool := (List.range' 0 w.2.2.2.2.1.length).all fun i => Aq (w.2.2.2.2.1.getD i Ys)
def Iz (w : Wld) : Bool := (List.range' 0 w.2.2.2.2.2.1.length).all fun i => decide ((w.2.2.2.2.2.1.getD i z0).size = 64)
def D9 (w : Wld) : Bool := Eo w.1 1 8 && (Bp w.2.1 && (Eo w.2.2.2.2.1.length 1 200 && (decide (w.2.2.2.2.2.1.length ≤ 2000) && (Vf w && (R6 w && Iz w)))))
theorem Nl {α β : Type} {x : Option α} {y : α} {f : α → Option β} {z : Option β} (h : x = some y) (k : f y = z) : x.bind f = z := by rw [h]; exact k
def Is : Int → List ByteArray → List Opn
 | _, [] => []
 | a, x :: r => Afh a x :: Is (a + 1) r
theorem Aq6 (x : ByteArray) : ∀ (L : List ByteArray) (a : Int), Is a (L ++ [x]) = Is a L ++ [Afh (a + (L.length : Int)) x]
 | [], a => by show [Afh a x] = [Afh (a + (0 : Int)) x]; rw [Int.add_zero]
 | y :: L, a => by
  show Afh a y :: Is (a + 1) (L ++ [x]) = Afh a y :: (Is (a + 1) L ++ [Afh (a + ((L.length + 1 : Nat) : Int)) x])
  rw [Aq6 x L (a + 1), show a + 1 + (L.length : Int) = a + ((L.length + 1 : Nat) : Int) by omega]
theorem m5 : ∀ (L : List ByteArray) (a : Int), (Is a L).length = L.length
 | [], _ => rfl
 | _ :: L, a => by show (Is (a + 1) L).length + 1 = L.length + 1; rw [m5 L]
theorem Aq7 (a : Int) : ∀ (L : List ByteArray) (i : Nat) (r : List Opn), Fb (fun (i : Nat) x r => r ++ [Afh (a + (i : Int)) x]) i L r = r ++ Is (a + (i : Int)) L
 | [], i, r => (List.append_nil r).symm
 | x :: L, i, r => by
  show Fb _ (i + 1) L (r ++ [Afh (a + (i : Int)) x]) = _
  rw [Aq7 a L (i + 1), List.append_assoc, show a + ((i + 1 : Nat) : Int) = a + (i : Int) + 1 by omega]
  rfl
theorem Amd {α : Type} : ∀ (L : List α) (i : Nat) (r : List α), Fb (fun (_ : Nat) x r => r ++ [x]) i L r = r ++ L
 | [], i, r => (List.append_nil r).symm
 | x :: L, i, r => by
  show Fb _ (i + 1) L (r ++ [x]) = _
  rw [Amd L (i + 1), List.append_assoc]
  rfl
def Bz (h n : Int) : Int := 2 + h * An n
def A31 (s : Sto) (life : Int) : Rt := (s.2.2.2.1.1 + 1, 1 - s.2.2.2.1.2.1, s.2.2.2.1.2.2.1 + An s.2.1, life, ())
def W9 (w life first : Int) (b : List Chg) (L : List ByteArray) : List ByteArray := L ++ Al2 (F4 b) life (first + (L.length : Int)) w
def mvL (s : Sto) (life : Int) : List ByteArray := Fb (fun _ b L => W9 s.1 life (s.2.2.2.1.2.2.1 + An s.2.1) b L) 0 (Dg s.2.2.2.2.2.2.1) [D1 (3, life, s.2.2.2.1.2.2.1 + An s.2.1, z0, ()) s.1]
def A5c (s : Sto) (life : Int) : List Opn := Is (Bz (1 - s.2.2.2.1.2.1) s.2.1) (mvL s life) ++ [Ay0, Afh (Int.tmod (s.2.2.2.1.1 + 1) 2) (Vd (A31 s life) s.1), Ay0]
def Ac2 (s : Sto) (life : Int) : Sto × List Opn × Bool :=
 bif decide (s.2.2.2.1.1 + 1 > 1000000000) then (zSt, [], false) else bif decide (s.2.2.2.1.2.2.1 + An s.2.1 > 999999000) then (zSt, [], false) else
 ((s.1, s.2.1, life, A31 s life, nI (mvL s life).length, 0, s.2.2.2.2.2.2.1, ()), A5c s life, true)
def Ask (s : Sto) : Prop := (0 ≤ s.2.2.2.1.1 ∧ s.2.2.2.1.1 ≤ 1000000000) ∧ (0 ≤ s.2.2.2.1.2.1 ∧ s.2.2.2.1.2.1 ≤ 1) ∧ (0 ≤ s.2.2.2.1.2.2.1 ∧ s.2.2.2.1.2.2.1 ≤ 1000000000) ∧ s.2.2.2.2.2.2.1.1.length ≤ 1000000
instance (s : Sto) : Decidable (Ask s) := by unfold Ask; infer_instance
theorem Asl (b : List Chg) (life f w : Int) : (Al2 (F4 b) life f w).length ≤ 4001 := by
 unfold Al2
 cases hw : Eo w 1 8 with
 | false => simp
 | true =>
  cases hc : (true && (Eo life 1 60000 && (decide (1 ≤ f) && decide (f ≤ 1000000000 - Fg (F4 b).size w + 1)))) with
  | false => simp
  | true =>
   simp only [cond_true]
   rw [Zm, List.length_map, List.length_range']
   have h1 := Avb (F4 b) w
   rw [hw, cond_true] at h1
   have h2 := (Aff (F4 b).size w).2
   have h3 := Mj b
   omega
def MvI (i : Nat) (L : List ByteArray) : Prop := i ≤ 101 ∧ L.length ≤ 1 + 4001 * i
theorem MvI.step {i : Nat} {L : List ByteArray} (h : MvI i L) (hi : i < 101) (w life first : Int) (b : List Chg) : MvI (i + 1) (W9 w life first b L) := by
 obtain ⟨h1, h2⟩ := h
 refine ⟨by omega, ?_⟩
 unfold W9
 have := Asl b life (first + (L.length : Int)) w
 rw [List.length_append]
 omega
theorem Asm (s : Sto) (life : Int) : (mvL s life).length ≤ 500000 := by
 have h := l9 ([] : List Chg) MvI (fun _ b L => W9 s.1 life (s.2.2.2.1.2.2.1 + An s.2.1) b L) (xs := Dg s.2.2.2.2.2.2.1) (fun i L hi hI => hI.step (Nat.lt_of_lt_of_le hi (Rn _)) _ _ _ _) (Dg s.2.2.2.2.2.2.1).length 0 [D1 (3, life, s.2.2.2.1.2.2.1 + An s.2.1, z0, ()) s.1] (by omega) ⟨by omega, by simp⟩
 have h2 := Rn s.2.2.2.2.2.2.1
 have h3 := h.2
 have h4 : (mvL s life).length ≤ 1 + 4001 * (Dg s.2.2.2.2.2.2.1).length := h3
 omega
def Ahn (s : Sto) : Don := bif (Ac2 s s.2.2.1).2.2 then (0, (Ac2 s s.2.2.1).1, (Ac2 s s.2.2.1).2.1, ()) else Ave 4
theorem Akp {H n : Int} (hH : 0 ≤ H ∧ H ≤ 1) : 0 ≤ H * An n ∧ H * An n ≤ 99 := by
 have hh := M5 n
 have : H = 0 ∨ H = 1 := by omega
 rcases this with rfl | rfl <;> omega
theorem Asn {w : Wld} (h : D9 w = true) : Bp w.2.1 = true ∧ w.2.2.2.2.2.1.length ≤ 2000 ∧ (1 ≤ w.2.2.2.2.1.length ∧ w.2.2.2.2.1.length ≤ 200) := by
 unfold D9 at h
 obtain ⟨_, h⟩ := Cj h
 obtain ⟨h1, h⟩ := Cj h
 obtain ⟨h2, h⟩ := Cj h
 obtain ⟨h3, h⟩ := Cj h
 have h2 := G4 h2
 exact ⟨h1, of_decide_eq_true h3, by omega⟩
end Go.Proofs.YteaoabdlcefkhaaGreat.V

