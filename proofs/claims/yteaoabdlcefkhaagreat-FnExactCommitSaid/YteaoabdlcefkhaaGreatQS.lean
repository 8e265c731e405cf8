/- Plain facts, second part. No condition. -/
import Derived.Test.YteaoabdlcefkhaaGreatQBase
namespace Go.Proofs.YteaoabdlcefkhaaGreat.V
open Go Go.Proofs.YteaoabdlcefkhaaGreat.R
set_option linter.unusedVariables false
set_option linter.unusedSimpArgs false
theorem Er {α σ E : Type} {xs : List α} (z : α) (Inv : Nat → σ → Prop) (step : Nat → α → σ → σ) {g : Nat → Int → σ → Option E} {ok : σ → E}
  (hs : ∀ m (i : Nat) s, i < xs.length → Inv i s → g (m + 1) i s = g m ((i + 1 : Nat) : Int) (step i (xs.getD i z) s))
  (hi : ∀ i s, i < xs.length → Inv i s → Inv (i + 1) (step i (xs.getD i z) s))
  (he : ∀ m s, Inv xs.length s → g (m + 1) (xs.length : Int) s = some (ok s)) :
  ∀ (m i : Nat) s, i ≤ xs.length → xs.length - i < m → Inv i s → g m i s = some (ok (Fw step i (xs.drop i) s))
 | 0, i, s, _, hm, _ => by omega
 | m + 1, i, s, hl, hm, hI => by
  by_cases h : i < xs.length
  ·rw [hs m i s h hI, Er z Inv step hs hi he m (i + 1) _ (by omega) (by omega) (hi i s h hI), Iv xs i z h]
   rfl
  ·have : i = xs.length := by omega
   subst this
   rw [he _ _ hI, List.drop_length]
   rfl
theorem Ahx (n : Nat) (h : n < 1099511627776) : IntKind.wrap IntKind.i64 (nI (n + 1) - 1) = (n : Int) := by
 simp only [nI]
 rw [Ae (by omega) (by omega)]
 omega
theorem Aqd (i : Nat) : (Int.tmod (i : Int) 20 == 0) = (i % 20 == 0) := by
 have : Int.tmod (i : Int) 20 = ((i % 20 : Nat) : Int) := by rw [Int.tmod_eq_emod_of_nonneg (by omega)]; omega
 rw [this]
 by_cases h : i % 20 = 0
 ·rw [h]; rfl
 ·rw [beq_eq_false_iff_ne.2 h]
  exact beq_eq_false_iff_ne.2 (by omega)
theorem Aj0 {α : Type} (c : Bool) (xs : List α) (y : α) : (Pz c xs y).length = xs.length + c.toNat := by cases c <;> simp [Pz]
def Agi (i : Nat) (s : List (List Chg) × Bool × List Chg) : Prop := i ≤ 100 ∧ s.1.length ≤ i ∧ (0 < i → s.2.1 = true) ∧ s.2.2.length ≤ i
theorem Agi.step {i : Nat} {s : List (List Chg) × Bool × List Chg} (h : Agi i s) (h1 : i < 100) (p : Pr2) : Agi (i + 1) (Kz i p s) := by
 obtain ⟨_, h2, h3, h4⟩ := h
 unfold Kz
 cases hc : (i % 20 == 0)
 ·have : 0 < i := Nat.pos_of_ne_zero fun q => by subst q; cases hc
  refine ⟨by omega, by simp only [cond_false]; omega, fun _ => h3 this, ?_⟩
  simp only [cond_false, List.length_append, List.length_singleton]
  omega
 ·refine ⟨by omega, ?_, fun _ => rfl, by simp⟩
  simp only [cond_true]
  rw [Aj0]
  by_cases q : 0 < i
  ·rw [h3 q]; simp; omega
  ·cases s.2.1 <;> simp <;> omega
theorem Fy {s : Stt} (h : A3 s = true) : s.1.length ≤ 100 := of_decide_eq_true (Cq h).1
theorem Aj1 (s : ByteArray) (w : Int) : (bif Fp w 1 8 then ((Bu s w).length : Int) else 0) = C2 s.size w := by
 unfold C2
 cases hw : Fp w 1 8 with
 | false => rfl
 | true => exact Vd hw
theorem Zi (n : Nat) (w : Int) : 0 ≤ C2 n w ∧ C2 n w ≤ (n : Int) + 1 := by
 unfold C2
 cases hw : Fp w 1 8 with
 | false => exact ⟨Int.le_refl _, by simp only [cond_false]; omega⟩
 | true =>
  obtain ⟨h1, h2⟩ := Ep hw
  simp only [cond_true]
  have hc : w = 1 ∨ w = 2 ∨ w = 3 ∨ w = 4 ∨ w = 5 ∨ w = 6 ∨ w = 7 ∨ w = 8 := by omega
  rcases hc with rfl | rfl | rfl | rfl | rfl | rfl | rfl | rfl <;> split <;> omega
theorem Aly {b : List Chg} (h : ∀ c ∈ b, Lo c = true) : (Qn b).length ≤ 200 * b.length := by
 induction b with
 | nil => simp [Qn]
 | cons c r ih =>
  have h1 := (j7 (h c (by simp))).2
  have h2 := ih fun c hc => h c (by simp [hc])
  have e : Qn (c :: r) = W0 c ++ Qn r := rfl
  rw [e, List.length_append, List.length_cons]
  omega
theorem If (b : List Chg) : (F8 b).size ≤ 4000 := by
 unfold F8
 cases hv : A4 b with
 | false => exact Nat.zero_le _
 | true =>
  obtain ⟨_, h2, h3⟩ := Aob hv
  have := Aly h3
  show (strOfNums (Qn b)).size ≤ 4000
  rw [C3]
  omega
theorem Zj {α σ : Type} (z : α) (Inv : Nat → σ → Prop) (step : Nat → α → σ → σ) {xs : List α} (hi : ∀ i s, i < xs.length → Inv i s → Inv (i + 1) (step i (xs.getD i z) s)) :
  ∀ (k i : Nat) s, i + k = xs.length → Inv i s → Inv xs.length (Fw step i (xs.drop i) s)
 | 0, i, s, h, hI => by
  have : i = xs.length := by omega
  subst this
  rw [List.drop_length]
  exact hI
 | k + 1, i, s, h, hI => by
  rw [Iv xs i z (by omega)]
  exact Zj z Inv step hi k (i + 1) _ (by omega) (hi i s (by omega) hI)
theorem Agj (s : Stt) : (Cy s).length ≤ 101 := by
 unfold Cy
 cases hv : A3 s with
 | false => simp
 | true =>
  have hl := Fy hv
  have := Zj zP Agi Kz (xs := s.1) (fun i r hi hI => hI.step (by omega) _) s.1.length 0 ([], false, []) (by omega) ⟨by omega, by simp, fun q => by omega, by simp⟩
  simp only [cond_true]
  rw [Aj0]
  have h1 := this.2.1
  show (Acf 0 s.1 ([], false, [])).1.length + _ ≤ 101
  have h2 : (Acf 0 s.1 ([], false, [])).2.1.toNat ≤ 1 := by cases (Acf 0 s.1 ([], false, [])).2.1 <;> decide
  have h3 : (Acf 0 s.1 ([], false, [])).1.length ≤ s.1.length := h1
  omega
def Mg (s : Stt) (w : Int) : Int := bif Fp w 1 8 then (((Cy s).map fun b => C2 (F8 b).size w).sum) else 0
theorem Zk {α : Type} (f : α → Int) : ∀ (l : List α) (i : Nat) (a : Int), Fw (fun _ b a => a + f b) i l a = a + (l.map f).sum
 | [], _, a => by simp [Fw]
 | x :: r, i, a => by
  show Fw _ (i + 1) r (a + f x) = _
  rw [Zk f r, List.map_cons, List.sum_cons]
  omega
theorem Aqe {α : Type} (l : List α) : (l.map fun _ => (0 : Int)).sum = 0 := by
 induction l with
 | nil => rfl
 | cons x r ih => rw [List.map_cons, List.sum_cons, ih]; rfl
theorem Aj2 (s : Stt) (w : Int) : ((Cy s).map fun b => C2 (F8 b).size w).sum = Mg s w := by
 unfold Mg
 cases hw : Fp w 1 8 with
 | true => rfl
 | false =>
  have : (fun b : List Chg => C2 (F8 b).size w) = fun _ => 0 := by funext b; unfold C2; rw [hw]; rfl
  rw [this, Aqe]
  rfl
def Aoe (i : Nat) (a : Int) : Prop := i ≤ 101 ∧ 0 ≤ a ∧ a ≤ 5000 * (i : Int)
theorem Aoe.step {i : Nat} {a : Int} (h : Aoe i a) (hi : i < 101) (b : List Chg) (w : Int) : Aoe (i + 1) (a + C2 (F8 b).size w) := by
 have h1 := Zi (F8 b).size w
 have h2 := If b
 obtain ⟨_, h3, h4⟩ := h
 exact ⟨by omega, by omega, by omega⟩
theorem Acn {i : Nat} {a : Int} (h : Aoe i a) (b : List Chg) (w : Int) : IntKind.wrap IntKind.i64 (a + C2 (F8 b).size w) = a + C2 (F8 b).size w := by
 have h1 := Zi (F8 b).size w
 have h2 := If b
 obtain ⟨_, h3, h4⟩ := h
 exact Ae (by omega) (by omega)
def A0 (n : Int) : Int := bif Fp n 8 200 then (n - 2) / 2 else 0
theorem j8 {n : Int} (h1 : 8 ≤ n) (h2 : n ≤ 200) : IntKind.wrap IntKind.i64 (Int.tdiv (IntKind.wrap IntKind.i64 (n - 2)) 2) = (n - 2) / 2 := by
 rw [Ae (n := n - 2) (by omega) (by omega), Int.tdiv_eq_ediv_of_nonneg (by omega)]
 exact Ae (by omega) (by omega)
theorem O6 (n : Int) : 0 ≤ A0 n ∧ A0 n ≤ 99 := by
 unfold A0
 cases h : Fp n 8 200 with
 | false => simp only [cond_false]; omega
 | true =>
  obtain ⟨h1, h2⟩ := Ep h
  simp only [cond_true]
  omega
theorem Alz (n : Int) : decide (0 < A0 n) = Fp n 8 200 := by
 unfold A0
 cases h : Fp n 8 200 with
 | false => rfl
 | true =>
  obtain ⟨h1, h2⟩ := Ep h
  simp only [cond_true]
  exact decide_eq_true (by omega)
def D6 (s : Sto) : Bool := decide (0 < A0 s.2.1) && (Fp s.1 1 8 && (Fp s.2.2.1 1 60000 && (Fp s.2.2.2.1.1 0 1000000000 && (Ace s.2.2.2.1 && (Fp s.2.2.2.1.2.2.2.1 0 60000 && (Fp s.2.2.2.2.1 0 (A0 s.2.1) && (Fp s.2.2.2.2.2.1 0 s.2.2.2.2.1 && (A3 s.2.2.2.2.2.2.1 && decide (Mg s.2.2.2.2.2.2.1 s.1 ≤ A0 s.2.1 - 1)))))))))
theorem Atl (a b : Bool) : (bif a then some ((b, ()), ()) else some ((false, ()), ())) = (some ((a && b, ()), ()) : Option ((Bool × Unit) × Unit)) := by cases a <;> rfl
theorem At5 (a b : Bool) : (bif !a then some ((false, ()), ()) else some ((b, ()), ())) = (some ((a && b, ()), ()) : Option ((Bool × Unit) × Unit)) := by cases a <;> rfl
theorem Nk (n : Int) : IntKind.wrap IntKind.i64 (A0 n - 1) = A0 n - 1 := by
 have := O6 n
 exact Ae (by omega) (by omega)
theorem Aj3 (n : Int) (b : Bool) : (bif A0 n == 0 then some ((false, ()), ()) else some ((b, ()), ())) = (some ((decide (0 < A0 n) && b, ()), ()) : Option ((Bool × Unit) × Unit)) := by
 have := O6 n
 by_cases h : A0 n = 0
 ·rw [h]; rfl
 ·rw [beq_eq_false_iff_ne.2 h, decide_eq_true (by omega)]; rfl
def zSt : Sto := (0, 0, 0, (0, 0, 0, 0, ()), 0, 0, ([], ()), ())
def Al0 (c : Int) : Don := (c, zSt, [], ())
def Aqf (at' : Int) (data : ByteArray) : Opn := (false, at', data, ())
theorem Anc {s : Sto} (h : D6 s = true) : Fp s.2.1 8 200 = true ∧ Fp s.1 1 8 = true ∧ A3 s.2.2.2.2.2.2.1 = true ∧ (1 ≤ s.2.2.1 ∧ s.2.2.1 ≤ 60000) ∧ (0 ≤ s.2.2.2.1.1 ∧ s.2.2.2.1.1 ≤ 1000000000) ∧ Ace s.2.2.2.1 = true ∧
  (0 ≤ s.2.2.2.1.2.2.2.1 ∧ s.2.2.2.1.2.2.2.1 ≤ 60000) ∧ (0 ≤ s.2.2.2.2.1 ∧ s.2.2.2.2.1 ≤ A0 s.2.1) ∧ (0 ≤ s.2.2.2.2.2.1 ∧ s.2.2.2.2.2.1 ≤ s.2.2.2.2.1) ∧ Mg s.2.2.2.2.2.2.1 s.1 ≤ A0 s.2.1 - 1 := by
 unfold D6 at h
 obtain ⟨h1, h⟩ := Cq h
 obtain ⟨h2, h⟩ := Cq h
 obtain ⟨h3, h⟩ := Cq h
 obtain ⟨h4, h⟩ := Cq h
 obtain ⟨h5, h⟩ := Cq h
 obtain ⟨h6, h⟩ := Cq h
 obtain ⟨h7, h⟩ := Cq h
 obtain ⟨h8, h⟩ := Cq h
 obtain ⟨h9, h⟩ := Cq h
 rw [Alz] at h1
 exact ⟨h1, h2, h9, Ep h3, Ep h4, h5, Ep h6, Ep h7, Ep h8, of_decide_eq_true h⟩
abbrev tSt : Ty := .pair (.sl (.pair .str (.pair .str .unit))) .unit
abbrev tRt : Ty := .pair (.int .i64) (.pair (.int .i64) (.pair (.int .i64) (.pair (.int .i64) .unit)))
abbrev At6 : Ty := .pair (.int .i64) (.pair (.int .i64) (.pair (.int .i64) (.pair tRt (.pair (.int .i64) (.pair (.int .i64) (.pair tSt .unit))))))
abbrev tOp : Ty := .pair .bool (.pair (.int .i64) (.pair .str .unit))
abbrev Atn : Ty := .pair (.int .i64) (.pair At6 (.pair (.sl tOp) .unit))
theorem n0 {s : Stt} (h : A3 s = true) : ∀ p ∈ s.1, 1 ≤ p.1.size ∧ p.1.size ≤ 20 ∧ p.2.1.size ≤ 100 := fun p hp => by
 obtain ⟨i, hi, rfl⟩ := Acj zP hp
 have := Zg (Cq h).2 i hi
 unfold Gj at this
 obtain ⟨h1, h2⟩ := Cq this
 obtain ⟨h2, _⟩ := Cq h2
 have h3 := Ep h1
 exact ⟨by omega, by omega, of_decide_eq_true h2⟩
theorem Al1 {s : Stt} (h : A3 s = true) : G4 tSt s = true := by
 have hl := Fy h
 show ((decide (s.1.length ≤ 1073741824) && List.all s.1 (G4 (.pair .str (.pair .str .unit)))) && true) = true
 rw [decide_eq_true (show s.1.length ≤ 1073741824 by omega), Bool.true_and, Bool.and_true]
 refine List.all_eq_true.2 fun p hp => ?_
 obtain ⟨_, h1, h2⟩ := n0 h p hp
 show (decide (p.1.size ≤ 1073741824) && (decide (p.2.1.size ≤ 1073741824) && true)) = true
 rw [decide_eq_true (show p.1.size ≤ 1073741824 by omega), decide_eq_true (show p.2.1.size ≤ 1073741824 by omega)]
 rfl
theorem Aof {c w n l u o : Int} {r : Rt} {s : Stt} {ops : List Opn} (hs : G4 tSt s = true) (ho : G4 (.sl tOp) ops = true) : G4 Atn (c, (w, n, l, r, u, o, s, ()), ops, ()) = true := by
 show ((G4 tSt s && true) && (G4 (.sl tOp) ops && true)) = true
 rw [hs, ho]
 rfl
abbrev ScT := Int × Int × ByteArray × List ByteArray × Int × Int
def Aj4 (i : Int) (p : Pg) (s : ScT) : ScT :=
 bif p.1 == 1 then (1, p.2.1, s.2.2.1 ++ p.2.2.2.1, s.2.2.2.1, s.2.2.2.2.1, s.2.2.2.2.2)
 else bif p.1 == 2 then (2, p.2.1, z0, s.2.2.2.1 ++ [s.2.2.1 ++ p.2.2.2.1], i + 1, p.2.1)
 else (p.1, p.2.1, z0, s.2.2.2.1, i + 1, p.2.1)
def seen (d : Dk) (a : Int) (k n : Nat) : List ByteArray := (List.range' k n).map fun k : Nat => At2 d (a + (k : Int))
def Aj5 (i : Nat) (s : ScT) : Prop := i ≤ 200 ∧ s.2.2.1.size ≤ 64 * i ∧ s.2.2.2.1.length ≤ i
theorem Aj5.zero (a b c l : Int) : Aj5 0 (a, b, z0, [], c, l) := ⟨by omega, Nat.le_refl 0, Nat.le_refl 0⟩
theorem Aj5.next {i : Nat} {s : ScT} {p : Pg} (h : Aj5 i s) (hi : i < 200) (hp : p.2.2.2.1.size ≤ 64) : Aj5 (i + 1) (Aj4 i p s) := by
 obtain ⟨_, h2, h3⟩ := h
 unfold Aj4
 cases (p.1 == 1)
 ·cases (p.1 == 2)
  ·exact ⟨by omega, Nat.zero_le _, by simp only [cond_false]; omega⟩
  ·refine ⟨by omega, Nat.zero_le _, ?_⟩
   simp only [cond_false, cond_true, List.length_append, List.length_singleton]
   omega
 ·refine ⟨by omega, ?_, by simp only [cond_true]; omega⟩
  simp only [cond_true, ByteArray.size_append]
  omega
def zSs : Stt := ([], ())
theorem Zl {α β : Type} {x : Option α} {y : α} {f : α → Option β} {z : Option β} (h : x = some y) (k : f y = z) : x.bind f = z := by rw [h]; exact k
def j9 : Int → List ByteArray → List Opn
 | _, [] => []
 | a, x :: r => Aqf a x :: j9 (a + 1) r
theorem Agk : ∀ (L : List ByteArray) (a : Int), (j9 a L).length = L.length
 | [], _ => rfl
 | _ :: L, a => by show (j9 (a + 1) L).length + 1 = L.length + 1; rw [Agk L]
theorem Zm (a : Int) : ∀ (L : List ByteArray) (i : Nat) (r : List Opn), Fw (fun (i : Nat) x r => r ++ [Aqf (a + (i : Int)) x]) i L r = r ++ j9 (a + (i : Int)) L
 | [], i, r => (List.append_nil r).symm
 | x :: L, i, r => by
  show Fw _ (i + 1) L (r ++ [Aqf (a + (i : Int)) x]) = _
  rw [Zm a L (i + 1), List.append_assoc, show a + ((i + 1 : Nat) : Int) = a + (i : Int) + 1 by omega]
  rfl
def Ht (h n : Int) : Int := 2 + h * A0 n
def Aqg (w life first : Int) (b : List Chg) (L : List ByteArray) : List ByteArray := L ++ Aek (F8 b) life (first + (L.length : Int)) w
def Aqh (s : Sto) : Prop := (0 ≤ s.2.2.2.1.1 ∧ s.2.2.2.1.1 ≤ 1000000000) ∧ (0 ≤ s.2.2.2.1.2.1 ∧ s.2.2.2.1.2.1 ≤ 1) ∧ (0 ≤ s.2.2.2.1.2.2.1 ∧ s.2.2.2.1.2.2.1 ≤ 1000000000) ∧ s.2.2.2.2.2.2.1.1.length ≤ 1000000
instance (s : Sto) : Decidable (Aqh s) := by unfold Aqh; infer_instance
theorem Aa1 (b : List Chg) (life f w : Int) : (Aek (F8 b) life f w).length ≤ 4001 := by
 unfold Aek
 cases hw : Fp w 1 8 with
 | false => simp
 | true =>
  cases hc : (true && (Fp life 1 60000 && (decide (1 ≤ f) && decide (f ≤ 1000000000 - C2 (F8 b).size w + 1)))) with
  | false => simp
  | true =>
   simp only [cond_true]
   rw [Nj, List.length_map, List.length_range']
   have h1 := Aj1 (F8 b) w
   rw [hw, cond_true] at h1
   have h2 := (Zi (F8 b).size w).2
   have h3 := If b
   omega
def MvI (i : Nat) (L : List ByteArray) : Prop := i ≤ 101 ∧ L.length ≤ 1 + 4001 * i
theorem MvI.step {i : Nat} {L : List ByteArray} (h : MvI i L) (hi : i < 101) (w life first : Int) (b : List Chg) : MvI (i + 1) (Aqg w life first b L) := by
 obtain ⟨h1, h2⟩ := h
 refine ⟨by omega, ?_⟩
 unfold Aqg
 have := Aa1 b life (first + (L.length : Int)) w
 rw [List.length_append]
 omega
theorem And {H n : Int} (hH : 0 ≤ H ∧ H ≤ 1) : 0 ≤ H * A0 n ∧ H * A0 n ≤ 99 := by
 have hh := O6 n
 have : H = 0 ∨ H = 1 := by omega
 rcases this with rfl | rfl <;> omega
theorem Aco : ∀ (L : List ByteArray) (a : Int), (∀ x ∈ L, x.size ≤ 64) → ∀ o ∈ j9 a L, o.2.2.1.size ≤ 64
 | [], _, _, o, ho => by cases ho
 | x :: L, a, h, o, ho => by
  rcases List.mem_cons.1 ho with rfl | q
  ·exact h x List.mem_cons_self
  ·exact Aco L (a + 1) (fun y hy => h y (List.mem_cons_of_mem _ hy)) o q
theorem Arq {o : Opn} (h : o.2.2.1.size ≤ 1073741824) : G4 tOp o = true := by
 show (true && (true && (decide (o.2.2.1.size ≤ 1073741824) && true))) = true
 rw [decide_eq_true h]
 rfl
theorem Aqi {L : List Opn} (h1 : L.length ≤ 1073741824) (h2 : ∀ o ∈ L, o.2.2.1.size ≤ 64) : G4 (.sl tOp) L = true := by
 show (decide (L.length ≤ 1073741824) && List.all L (G4 tOp)) = true
 rw [decide_eq_true h1, Bool.true_and]
 exact List.all_eq_true.2 fun o ho => Arq (Nat.le_trans (h2 o ho) (by decide))
theorem Aog {e : ByteArray} {life f w : Int} {x : ByteArray} (h : x ∈ Aek e life f w) : x.size ≤ 64 := by
 unfold Aek at h
 cases hc : Fp w 1 8 && (Fp life 1 60000 && (decide (1 ≤ f) && decide (f ≤ 1000000000 - C2 e.size w + 1))) with
 | false => rw [hc] at h; simp at h
 | true => rw [hc] at h; exact (Alx _ _ _ _).2 x h
end Go.Proofs.YteaoabdlcefkhaaGreat.V

