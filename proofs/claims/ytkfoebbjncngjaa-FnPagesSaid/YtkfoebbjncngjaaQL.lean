/- Pages written and read; logs laid down and scanned. No condition. -/
import Derived.Test.YtkfoebbjncngjaaQS
namespace Go.Proofs.Ytkfoebbjncngjaa.V
open Go Go.Proofs.Ytkfoebbjncngjaa.R
set_option linter.unusedVariables false
set_option linter.unusedSimpArgs false
theorem d5 {w : Int} (h : Cs w 1 8 = true) : (Ea zS w).2 = false := by
 obtain ⟨h1, h2⟩ := Fg h
 have : w = 1 ∨ w = 2 ∨ w = 3 ∨ w = 4 ∨ w = 5 ∨ w = 6 ∨ w = 7 ∨ w = 8 := by omega
 rcases this with rfl | rfl | rfl | rfl | rfl | rfl | rfl | rfl <;> decide +kernel
theorem U2 (s : ByteArray) : s ++ ⟨#[]⟩ = s := I8 (by rw [Cu]; exact List.append_nil _)
def y7 : List ByteArray → ByteArray
 | [] => ⟨#[]⟩
 | p :: r => p ++ y7 r
theorem w8 {s : ByteArray} {n : Int} (h0 : 0 ≤ n) (h1 : n ≤ (s.size : Int)) : Ac s 0 n ++ Ac s n (nI s.size) = s := by
 unfold Ac
 have e1 : Int.toNat 0 = 0 := rfl
 have e2 : Int.toNat (nI s.size) = s.size := by simp [nI]
 rw [e1, e2, ByteArray.extract_append_extract]
 rw [Nat.min_eq_left (Nat.zero_le _), Nat.max_eq_right (by omega)]
 exact ByteArray.extract_zero_size
theorem Wv (n : Nat) (hn : 1 ≤ n) : ∀ (f : Nat) (s : ByteArray), s.size ≤ f → (∀ p ∈ Do n f s, p.size ≤ n) ∧ y7 (Do n f s) = s ∧ Do n f s ≠ []
 | 0, s, h => by
  have e : y7 [s] = s := U2 s
  exact ⟨fun p hp => by rw [List.mem_singleton.1 hp]; omega, e, by simp [Do]⟩
 | f + 1, s, h => by
  unfold Do
  by_cases q : s.size > n
  ·rw [if_pos q]
   have z1 := Ca (s := s) (a := 0) (b := (n : Int)) (by omega) (by omega) (by omega)
   have z2 := Ca (s := s) (a := (n : Int)) (b := nI s.size) (by omega) (by simp only [nI]; omega) (Int.le_refl _)
   obtain ⟨k1, k2, _⟩ := Wv n hn f (Ac s n (nI s.size)) (by simp only [nI] at *; omega)
   refine ⟨fun p hp => ?_, ?_, by simp⟩
   ·rcases List.mem_cons.1 hp with e | e
    ·rw [e]; omega
    ·exact k1 p e
   ·show Ac s 0 n ++ y7 (Do n f (Ac s n (nI s.size))) = s
    rw [k2]
    exact w8 (by omega) (by omega)
  ·rw [if_neg q]
   have e : y7 [s] = s := U2 s
   exact ⟨fun p hp => by rw [List.mem_singleton.1 hp]; omega, e, by simp⟩
theorem Ww (e : ByteArray) {w : Int} (h : Cs w 1 8 = true) : (∀ p ∈ A3 e w, (p.size : Int) ≤ 56 - w) ∧ y7 (A3 e w) = e ∧ A3 e w ≠ [] := by
 obtain ⟨h1, h2⟩ := Fg h
 obtain ⟨k1, k2, k3⟩ := Wv (56 - w).toNat (by omega) e.size e (Nat.le_refl _)
 exact ⟨fun p hp => by have := k1 p hp; omega, k2, k3⟩
theorem Nt {w first i : Int} {st : ScT} {x : ByteArray} {r : List ByteArray} (h : Jb w first i st x = true) : Bq w first (x :: r) i st = Bq w first r (i + 1) (Ja i (Ea x w).1 st) := by
 show (bif Jb w first i st x then _ else _) = _
 rw [h]
 rfl
theorem d6 {w first i : Int} {st : ScT} {x : ByteArray} {r : List ByteArray} (h : Jb w first i st x = false) : Bq w first (x :: r) i st = Fs st := by
 show (bif Jb w first i st x then _ else _) = _
 rw [h]
 rfl
theorem Nu {w first i : Int} {st : ScT} {p : Pg} (h : Be p w = true) : Jb w first i st (An p w) = (p.2.2.1 - i == first && Zh st.1 st.2.1 p) := by
 unfold Jb
 rw [Fv h]
 rfl
theorem U3 {w life k n : Int} {p : ByteArray} (hw : Cs w 1 8 = true) (hl : Cs life 1 60000 = true) (hk : k = 1 ∨ k = 2) (h1 : 1 ≤ n) (h2 : n ≤ 1000000000) (hp : (p.size : Int) ≤ 56 - w) : Be (k, life, n, p, ()) w = true := by
 unfold Be
 simp only
 rw [hw, hl, decide_eq_true hp]
 have e1 : Cs k 1 4 = true := by rcases hk with rfl | rfl <;> rfl
 have e2 : Cs n 1 1000000000 = true := by unfold Cs; rw [decide_eq_true h1, decide_eq_true h2]; rfl
 have e3 : (k != 3) = true := by rcases hk with rfl | rfl <;> rfl
 rw [e1, e2, e3]
 rfl
theorem Nv {k life wk wl : Int} {n : Int} {p : ByteArray} (hk : k = 1 ∨ k = 2) (h1 : wl ≤ life) (h2 : wk = 1 → wl = life) : Zh wk wl (k, life, n, p, ()) = true := by
 unfold Zh
 simp only
 rw [decide_eq_false (show ¬ life < wl by omega)]
 by_cases q : wk = 1
 ·have := h2 q
  subst this
  rcases hk with rfl | rfl <;> simp
 ·have : (wk != 1) = true := bne_iff_ne.2 q
  rcases hk with rfl | rfl <;> simp [this]
theorem Rf {w first life : Int} (hw : Cs w 1 8 = true) (hl : Cs life 1 60000 = true) (rest : List ByteArray) : ∀ (P : List ByteArray) (i : Int) (st : ScT), P ≠ [] → (∀ p ∈ P, (p.size : Int) ≤ 56 - w) → 1 ≤ first + i → first + i + P.length ≤ 1000000001 →
  st.2.1 ≤ life → (st.1 = 1 → st.2.1 = life) → Bq w first (Hg life w (first + i) P ++ rest) i st = Bq w first rest (i + P.length) (2, life, z0, st.2.2.2.1 ++ [st.2.2.1 ++ y7 P], i + P.length, life)
 | [], _, _, h, _, _, _, _, _ => absurd rfl h
 | [p], i, st, _, hs, h1, h2, h3, h4 => by
  have ok : Be (2, life, first + i, p, ()) w = true := U3 hw hl (.inr rfl) h1 (by simp only [List.length_singleton] at h2; omega) (hs p (by simp))
  show Bq w first (An (2, life, first + i, p, ()) w :: rest) i st = _
  rw [Nt (by rw [Nu ok, Nv (.inr rfl) h3 h4]; simp), Fv ok]
  have e : y7 [p] = p := U2 p
  rw [e]
  rfl
 | p :: q :: r, i, st, _, hs, h1, h2, h3, h4 => by
  simp only [List.length_cons] at h2
  have ok : Be (1, life, first + i, p, ()) w = true := U3 hw hl (.inl rfl) h1 (by omega) (hs p (by simp))
  show Bq w first (An (1, life, first + i, p, ()) w :: (Hg life w (first + i + 1) (q :: r) ++ rest)) i st = _
  rw [Nt (by rw [Nu ok, Nv (.inl rfl) h3 h4]; simp), Fv ok, show first + i + 1 = first + (i + 1) by omega]
  rw [Rf hw hl rest (q :: r) (i + 1) _ (by simp) (fun x hx => hs x (by simp only [List.mem_cons] at hx ⊢; exact .inr hx)) (by omega) (by simp only [List.length_cons]; omega) (Int.le_refl life) (fun _ => rfl)]
  have e1 : i + 1 + ((q :: r).length : Int) = i + ((p :: q :: r).length : Int) := by simp only [List.length_cons]; omega
  have e2 : (Ja i (1, life, first + i, p, ()) st).2.2.2.1 = st.2.2.2.1 := rfl
  have e3 : (Ja i (1, life, first + i, p, ()) st).2.2.1 = st.2.2.1 ++ p := rfl
  have e4 : y7 (p :: q :: r) = p ++ y7 (q :: r) := rfl
  rw [e1, e2, e3, e4, ByteArray.append_assoc]
theorem Tq {w first life : Int} (hw : Cs w 1 8 = true) (hl : Cs life 1 60000 = true) (rest : List ByteArray) : ∀ (P : List ByteArray) (i : Int) (st : ScT) (m : Nat), m < P.length → (∀ p ∈ P, (p.size : Int) ≤ 56 - w) → 1 ≤ first + i → first + i + P.length ≤ 1000000001 →
  st.2.1 ≤ life → (st.1 = 1 → st.2.1 = life) → ∃ st' : ScT, st'.2.2.2 = st.2.2.2 ∧ (m = 0 → st' = st) ∧ (0 < m → st'.1 = 1 ∧ st'.2.1 = life) ∧ Bq w first ((Hg life w (first + i) P).take m ++ rest) i st = Bq w first rest (i + m) st'
 | P, i, st, 0, _, _, _, _, _, _ => ⟨st, rfl, fun _ => rfl, fun q => absurd q (by omega), by simp⟩
 | [], _, _, m + 1, h, _, _, _, _, _ => by simp at h
 | [p], _, _, m + 1, h, _, _, _, _, _ => by simp at h
 | p :: q :: r, i, st, m + 1, hm, hs, h1, h2, h3, h4 => by
  simp only [List.length_cons] at h2 hm
  have ok : Be (1, life, first + i, p, ()) w = true := U3 hw hl (.inl rfl) h1 (by omega) (hs p (by simp))
  obtain ⟨st', k1, k0, k2, k3⟩ := Tq (first := first) hw hl rest (q :: r) (i + 1) (Ja i (1, life, first + i, p, ()) st) m (by simp only [List.length_cons]; omega) (fun x hx => hs x (by simp only [List.mem_cons] at hx ⊢; exact .inr hx)) (by omega) (by simp only [List.length_cons]; omega) (Int.le_refl life) (fun _ => rfl)
  have e3 : Bq w first ((Hg life w (first + i) (p :: q :: r)).take (m + 1) ++ rest) i st = Bq w first rest (i + ((m + 1 : Nat) : Int)) st' := by
   show Bq w first (An (1, life, first + i, p, ()) w :: ((Hg life w (first + i + 1) (q :: r)).take m ++ rest)) i st = _
   rw [Nt (by rw [Nu ok, Nv (.inl rfl) h3 h4]; simp), Fv ok, show first + i + 1 = first + (i + 1) by omega, k3]
   congr 1
   omega
  refine ⟨st', k1, fun q => absurd q (by omega), fun _ => ?_, e3⟩
  by_cases q0 : 0 < m
  ·exact k2 q0
  ·have : m = 0 := by omega
   rw [k0 this]
   exact ⟨rfl, rfl⟩
theorem Ec.valid {d : Dk} (h : Ec d) : J6 d = true := by
 unfold J6 Cs
 have h8 := h.n8
 have h2 := h.n200
 rw [decide_eq_true (show (8 : Int) ≤ (d.1.length : Int) by omega), decide_eq_true (show (d.1.length : Int) ≤ 200 by omega), decide_eq_true h.p300]
 simp only [Bool.true_and, Bool.and_eq_true, List.all_eq_true, decide_eq_true_eq, List.mem_range']
 refine ⟨fun i hi => h.sec i (by omega), fun i hi => ?_⟩
 obtain ⟨k1, k2, k3⟩ := h.pen i (by omega)
 unfold q9
 rw [decide_eq_true k1, decide_eq_true k2, decide_eq_true k3]
 rfl
def put (d : Dk) (a : Int) (x : ByteArray) : Dk := (d.1, d.2.1 ++ [(a, x, ())], ())
theorem Aa3 {d : Dk} {a b : Int} {x : ByteArray} : Aaw (put d a x) b = bif a == b then x else Aaw d b := by
 unfold Aaw put
 simp only [List.reverse_append, List.reverse_singleton, List.singleton_append, X9]
structure LD (d : Dk) (L : List ByteArray) (k : Nat) : Prop where
 ok : Ec d
 n : d.1.length = 100
 p : d.2.1.length ≤ k
 s : seen d 2 0 90 = L
theorem LD.len {d : Dk} {L : List ByteArray} {k : Nat} (h : LD d L k) : L.length = 90 := by rw [← h.s]; exact Mq _ _ _ _
theorem w9 {d : Dk} {j : Nat} {x : ByteArray} : seen (put d (2 + (j : Int)) x) 2 0 90 = (seen d 2 0 90).set j x := by
 apply List.ext_getElem
 ·rw [List.length_set, Mq, Mq]
 ·intro i h1 h2
  rw [List.getElem_set]
  unfold seen
  simp only [List.getElem_map, List.getElem_range', Aa3]
  by_cases q : j = i
  ·subst q
   rw [if_pos rfl, show (2 + (j : Int) == 2 + ((0 + 1 * j : Nat) : Int)) = true from beq_iff_eq.2 (by omega)]
   rfl
  ·rw [if_neg q, show (2 + (j : Int) == 2 + ((0 + 1 * i : Nat) : Int)) = false from beq_eq_false_iff_ne.2 (by omega)]
   rfl
theorem LD.put {d : Dk} {L : List ByteArray} {k : Nat} (h : LD d L k) (hk : k < 300) {j : Nat} (hj : j < 90) {x : ByteArray} (hx : x.size = 64) :
  Mp d [(false, 2 + (j : Int), x, ())] 1 = put d (2 + (j : Int)) x ∧ LD (put d (2 + (j : Int)) x) (L.set j x) (k + 1) := by
 have hp := h.p
 have e1 : opS d (false, 2 + (j : Int), x, ()) = V.put d (2 + (j : Int)) x := by
  unfold opS q9
  rw [h.n, decide_eq_true (show (0 : Int) ≤ 2 + (j : Int) by omega), decide_eq_true (show 2 + (j : Int) < ((100 : Nat) : Int) by omega), decide_eq_true (show x.size = 64 from hx), decide_eq_true (show d.2.1.length < 300 by omega)]
  rfl
 have e2 : Mp d [(false, 2 + (j : Int), x, ())] 1 = opS d (false, 2 + (j : Int), x, ()) := by
  unfold Mp
  rw [h.ok.valid]
  rfl
 refine ⟨e2.trans e1, ?_, h.n, ?_, ?_⟩
 ·rw [← e1]
  exact h.ok.op _
 ·show (d.2.1 ++ [_]).length ≤ k + 1
  rw [List.length_append, List.length_singleton]
  omega
 ·rw [← h.s]
  exact w9
def lay (A : List ByteArray) : List ByteArray := A ++ List.replicate (90 - A.length) zS
theorem Aa4 {A : List ByteArray} {x : ByteArray} (h : A.length < 90) : (lay A).set A.length x = lay (A ++ [x]) := by
 unfold lay
 rw [List.length_append, List.length_singleton, List.set_append_right (h := Nat.le_refl _), Nat.sub_self]
 obtain ⟨m, hm⟩ : ∃ m, 90 - A.length = m + 1 := ⟨90 - A.length - 1, by omega⟩
 rw [hm, show 90 - (A.length + 1) = m by omega, List.replicate_succ, List.append_assoc]
 rfl
theorem LD.new : LD (Uz 100) (lay []) 0 := by
 have e : Uz 100 = (List.replicate 100 zS, [], ()) := rfl
 have hz : zS.size = 64 := by decide +kernel
 have ho : Ec (Uz 100) := by
  rw [e]
  exact ⟨by simp, by simp, Nat.zero_le _, fun i hi => by
   have hi : i < (List.replicate 100 zS).length := hi
   show ((List.replicate 100 zS).getD i z0).size = 64
   rw [List.getD_eq_getElem?_getD, List.getElem?_eq_getElem hi, Option.getD_some, List.getElem_replicate]
   exact hz, fun i hi => absurd hi (Nat.not_lt_zero _)⟩
 refine ⟨ho, by rw [e]; simp, Nat.le_refl _, ?_⟩
 show _ = List.replicate 90 zS
 refine List.eq_replicate_iff.2 ⟨Mq _ _ _ _, fun b hb => ?_⟩
 obtain ⟨k, hk, rfl⟩ := List.mem_map.1 hb
 have hk : k < 90 := by simp only [List.mem_range'] at hk; omega
 rw [e]
 show (List.replicate 100 zS).getD (Int.toNat (2 + (k : Int))) z0 = zS
 rw [List.getD_eq_getElem?_getD, List.getElem?_eq_getElem (by rw [List.length_replicate]; omega), Option.getD_some, List.getElem_replicate]
theorem LD.app {d : Dk} {A : List ByteArray} {k : Nat} (h : LD d (lay A) k) (hk : k < 300) (hA : A.length < 90) {x : ByteArray} (hx : x.size = 64) :
  Mp d [(false, 2 + (A.length : Int), x, ())] 1 = V.put d (2 + (A.length : Int)) x ∧ LD (V.put d (2 + (A.length : Int)) x) (lay (A ++ [x])) (k + 1) := by
 have := h.put hk (j := A.length) hA hx
 rwa [Aa4 hA] at this
theorem d7 (d : Dk) (a : Int) {m : Nat} (h : m ≤ 90) : seen d a 0 m = (seen d a 0 90).take m := by
 unfold seen
 rw [← List.map_take]
 congr 1
 apply List.ext_getElem
 ·simp
  omega
 ·intro i h1 h2
  simp
theorem LD.scan {d : Dk} {L : List ByteArray} {k : Nat} (h : LD d L k) {w : Int} (hw : Cs w 1 8 = true) (first life : Int) {m : Nat} (hm : m ≤ 90) :
  Zi d 2 (m : Int) first life w = Bq w first (L.take m) 0 (0, life, z0, [], 0, life) := by
 unfold Zi
 rw [h.ok.valid, hw, h.n, decide_eq_true (show (0 : Int) ≤ (m : Int) by omega), decide_eq_true (show (m : Int) ≤ ((100 : Nat) : Int) - 2 by omega), Int.toNat_natCast, d7 _ _ hm, h.s]
 rfl
theorem d8 {w : Int} (hw : Cs w 1 8 = true) (first i : Int) (st : ScT) (R : List ByteArray) : Bq w first (zS :: R) i st = Fs st := d6 (by
 unfold Jb
 rw [d5 hw]
 rfl)
theorem d9 {p : Pg} {w : Int} (h : Be p w = true) : (An p w).size = 64 := (La (s := An p w) (w := w) (p := p) (Fv h)).1
theorem Acm (s : ByteArray) : z0 ++ s = s := I8 (by rw [Cu]; rfl)
theorem Oy {s : ByteArray} {w : Int} (hw : Cs w 1 8 = true) (hs : s.size ≤ 310) : 1 ≤ (A3 s w).length ∧ (A3 s w).length ≤ 10 := by
 have hp := Lb (s := s) hw
 obtain ⟨h1, h2⟩ := Fg hw
 have : w = 1 ∨ w = 2 ∨ w = 3 ∨ w = 4 ∨ w = 5 ∨ w = 6 ∨ w = 7 ∨ w = 8 := by omega
 rcases this with rfl | rfl | rfl | rfl | rfl | rfl | rfl | rfl <;> (split at hp <;> omega)
theorem Yf {w : Int} (hw : Cs w 1 8 = true) : (A3 ⟨#[]⟩ w).length = 1 := by
 have hp := Lb (s := ⟨#[]⟩) hw
 obtain ⟨h1, h2⟩ := Fg hw
 have hz : (⟨#[]⟩ : ByteArray).size = 0 := rfl
 rw [hz] at hp
 have : w = 1 ∨ w = 2 ∨ w = 3 ∨ w = 4 ∨ w = 5 ∨ w = 6 ∨ w = 7 ∨ w = 8 := by omega
 rcases this with rfl | rfl | rfl | rfl | rfl | rfl | rfl | rfl <;> (split at hp <;> omega)
def Hh (life w first : Int) (A : List ByteArray) (s : ByteArray) : List ByteArray := A ++ Hg life w (first + (A.length : Int)) (A3 s w)
theorem Hi (life w first : Int) (A : List ByteArray) (s : ByteArray) : (Hh life w first A s).length = A.length + (A3 s w).length := by
 unfold Hh
 rw [List.length_append, (Yc _ _ _ _).1]
def SA (w first : Int) (st0 : ScT) (A : List ByteArray) (st : ScT) : Prop := ∀ rest, Bq w first (A ++ rest) 0 st0 = Bq w first rest (A.length : Int) st
theorem SA.nil (w first : Int) (st0 : ScT) : SA w first st0 [] st0 := fun _ => rfl
theorem SA.add {w first life : Int} {st0 st : ScT} {A : List ByteArray} (h : SA w first st0 A st) (hw : Cs w 1 8 = true) (hl : Cs life 1 60000 = true) (s : ByteArray) (hz : st.2.2.1 = z0) (h1 : 1 ≤ first) (h2 : first + (Hh life w first A s).length ≤ 1000000001) (h3 : st.2.1 ≤ life) (h4 : st.1 ≠ 1) :
  SA w first st0 (Hh life w first A s) (2, life, z0, st.2.2.2.1 ++ [s], ((Hh life w first A s).length : Int), life) := fun rest => by
 obtain ⟨k1, k2, k3⟩ := Ww s hw
 rw [Hi] at h2 ⊢
 unfold Hh
 rw [List.append_assoc, h, Rf hw hl rest _ _ st k3 k1 (by omega) (by omega) h3 (fun q => absurd q h4), k2, hz, Acm, ← Int.natCast_add]
theorem SA.part {w first life : Int} {st0 st : ScT} {A : List ByteArray} (h : SA w first st0 A st) (hw : Cs w 1 8 = true) (hl : Cs life 1 60000 = true) (s : ByteArray) (h1 : 1 ≤ first) (h2 : first + (Hh life w first A s).length ≤ 1000000001) (h3 : st.2.1 ≤ life) (h4 : st.1 ≠ 1) (rest : List ByteArray) :
  ∃ (st' : ScT) (i : Int), st'.2.2.2 = st.2.2.2 ∧ Bq w first ((Hh life w first A s).take ((Hh life w first A s).length - 1) ++ rest) 0 st0 = Bq w first rest i st' := by
 obtain ⟨k1, k2, k3⟩ := Ww s hw
 have hp : 0 < (A3 s w).length := List.length_pos_iff.2 k3
 have e1 : (Hh life w first A s).take ((Hh life w first A s).length - 1) = A ++ (Hg life w (first + (A.length : Int)) (A3 s w)).take ((A3 s w).length - 1) := by
  rw [Hi, show A.length + (A3 s w).length - 1 = A.length + ((A3 s w).length - 1) by omega]
  unfold Hh
  rw [List.take_length_add_append]
 rw [Hi] at h2
 obtain ⟨st', q1, _, _, q2⟩ := Tq (first := first) hw hl rest (A3 s w) (A.length : Int) st ((A3 s w).length - 1) (by omega) k1 (by omega) (by omega) h3 (fun q => absurd q h4)
 refine ⟨st', (A.length : Int) + (((A3 s w).length - 1 : Nat) : Int), q1, ?_⟩
 rw [e1, List.append_assoc, h, q2]
structure LG (w first life : Int) (st0 : ScT) (d : Dk) (A : List ByteArray) (st : ScT) : Prop where
 d : LD d (lay A) A.length
 s : SA w first st0 A st
theorem x3 {A : List ByteArray} (h : A.length < 90) : ∃ R, lay A = A ++ (zS :: R) := by
 obtain ⟨m, hm⟩ : ∃ m, 90 - A.length = m + 1 := ⟨90 - A.length - 1, by omega⟩
 exact ⟨List.replicate m zS, by unfold lay; rw [hm, List.replicate_succ]⟩
theorem x4 {a b : ScT} (h : a.2.2.2 = b.2.2.2) : Fs a = Fs b := by unfold Fs; rw [h]
structure Mr (w first life : Int) (e e3 : ByteArray) : Prop where
 w : Cs w 1 8 = true
 l0 : 1 ≤ life
 l1 : life ≤ 59998
 f0 : 1 ≤ first
 f1 : first ≤ 999999900
 e : e.size ≤ 310
 e3 : e3.size ≤ 310
def Aa5 (w first life : Int) (e : ByteArray) : List ByteArray := Hh (life + 1) w first [] e
def U4 (w first life : Int) (e : ByteArray) : List ByteArray := Hh (life + 1) w first (Aa5 w first life e) ⟨#[]⟩
def Ib (w first life : Int) (e e3 : ByteArray) : List ByteArray := Hh (life + 1) w first (U4 w first life e) e3
abbrev lst (life : Int) : ScT := (0, life, z0, [], 0, life)
section
variable {w first life : Int} {e e3 : ByteArray} (h : Mr w first life e e3)
include h
theorem Mr.l : Cs (life + 1) 1 60000 = true := by
 unfold Cs
 rw [decide_eq_true (show 1 ≤ life + 1 by have := h.l0; omega), decide_eq_true (show life + 1 ≤ 60000 by have := h.l1; omega)]
 rfl
theorem Mr.len : (Aa5 w first life e).length = (A3 e w).length ∧ (U4 w first life e).length = (A3 e w).length + 1 ∧ (Ib w first life e e3).length = (A3 e w).length + 1 + (A3 e3 w).length := by
 have q1 : (Aa5 w first life e).length = (A3 e w).length := by unfold Aa5; rw [Hi]; simp
 have q2 : (U4 w first life e).length = (A3 e w).length + 1 := by unfold U4; rw [Hi, q1, Yf h.w]
 exact ⟨q1, q2, by unfold Ib; rw [Hi, q2]⟩
theorem Mr.num : 3 ≤ (Ib w first life e e3).length ∧ (Ib w first life e e3).length ≤ 21 := by
 have a := Oy h.w h.e
 have b := Oy h.w h.e3
 have := h.len.2.2
 omega
theorem Mr.s2 : SA w first (lst life) (U4 w first life e) (2, life + 1, z0, [e, ⟨#[]⟩], ((U4 w first life e).length : Int), life + 1) := by
 obtain ⟨k1, k2, k3⟩ := h.len
 have kn := h.num
 have hf := h.f1
 have a := (SA.nil w first (lst life)).add (life := life + 1) h.w h.l e rfl h.f0 (by have : (Hh (life + 1) w first [] e).length = (A3 e w).length := k1; omega) (by show life ≤ life + 1; omega) (by decide : (0 : Int) ≠ 1)
 exact a.add h.w h.l ⟨#[]⟩ rfl h.f0 (by have : (Hh (life + 1) w first (Hh (life + 1) w first [] e) ⟨#[]⟩).length = (A3 e w).length + 1 := k2; omega) (Int.le_refl _) (by decide : (2 : Int) ≠ 1)
theorem Mr.s3 : SA w first (lst life) (Ib w first life e e3) (2, life + 1, z0, [e, ⟨#[]⟩, e3], ((Ib w first life e e3).length : Int), life + 1) := by
 obtain ⟨k1, k2, k3⟩ := h.len
 have kn := h.num
 have hf := h.f1
 exact h.s2.add h.w h.l e3 rfl h.f0 (by have : (Hh (life + 1) w first (U4 w first life e) e3).length = (A3 e w).length + 1 + (A3 e3 w).length := k3; omega) (Int.le_refl _) (by decide : (2 : Int) ≠ 1)
theorem Mr.part (R : List ByteArray) (hR : ∀ i st, Bq w first R i st = Fs st) :
  Bq w first ((Ib w first life e e3).take ((Ib w first life e e3).length - 1) ++ R) 0 (lst life) = ([e, ⟨#[]⟩], ((A3 e w).length : Int) + 1, life + 1, ()) := by
 obtain ⟨k1, k2, k3⟩ := h.len
 have kn := h.num
 have hf := h.f1
 obtain ⟨st', i, q1, q2⟩ := h.s2.part h.w h.l e3 h.f0 (by have : (Hh (life + 1) w first (U4 w first life e) e3).length = (A3 e w).length + 1 + (A3 e3 w).length := k3; omega) (Int.le_refl _) (by decide : (2 : Int) ≠ 1) R
 have q2 : Bq w first ((Ib w first life e e3).take ((Ib w first life e e3).length - 1) ++ R) 0 (lst life) = Bq w first R i st' := q2
 rw [q2, hR, x4 q1]
 show ([e, ⟨#[]⟩], ((U4 w first life e).length : Int), life + 1, ()) = _
 rw [k2]
 rfl
variable {d : Dk} (hd : LD d (lay (Ib w first life e e3)) (Ib w first life e e3).length)
include hd
theorem Mr.t0 : Zi d 2 90 first life w = ([e, ⟨#[]⟩, e3], ((Ib w first life e e3).length : Int), life + 1, ()) := by
 have kn := h.num
 obtain ⟨R, hR⟩ := x3 (A := Ib w first life e e3) (by omega)
 have q := hd.scan h.w first life (m := 90) (Nat.le_refl _)
 rw [List.take_of_length_le (by rw [hd.len]; omega), hR] at q
 exact q.trans ((h.s3 _).trans (d8 h.w _ _ _ _))
omit hd in
theorem Mr.t1 {R : List ByteArray} {d' : Dk} {k : Nat} (hd' : LD d' (Ib w first life e e3 ++ R) k) (hs : ∀ i, i = ((Ib w first life e e3).length : Int) → Fs ((2, life + 1, z0, [e, ⟨#[]⟩, e3], ((Ib w first life e e3).length : Int), life + 1) : ScT) = Bq w first R i (2, life + 1, z0, [e, ⟨#[]⟩, e3], ((Ib w first life e e3).length : Int), life + 1)) :
  Zi d' 2 90 first life w = ([e, ⟨#[]⟩, e3], ((Ib w first life e e3).length : Int), life + 1, ()) := by
 have q := hd'.scan h.w first life (m := 90) (Nat.le_refl _)
 rw [List.take_of_length_le (by rw [hd'.len]; omega)] at q
 exact q.trans ((h.s3 _).trans (hs _ rfl).symm)
end
theorem Aa6 : ∀ n : Fin 256, (IntKind.u8.wrap (nI (BitVec.ofInt 8 (n.val : Int) ^^^ BitVec.ofInt 8 1).toNat) == (n.val : Int)) = false ∧ decide (0 ≤ IntKind.u8.wrap (nI (BitVec.ofInt 8 (n.val : Int) ^^^ BitVec.ofInt 8 1).toNat)) = true ∧ decide (IntKind.u8.wrap (nI (BitVec.ofInt 8 (n.val : Int) ^^^ BitVec.ofInt 8 1).toNat) < 256) = true := by
 decide +kernel
theorem Nw {p : Pg} {w : Int} (h : Be p w = true) : An p w = Ia (Bc p w) w ++ Bc p w := by
 unfold An
 rw [h]
 rfl
theorem x5 {p : Pg} {w : Int} (h : Be p w = true) : Ia (Ac (An p w) w (nI (An p w).size)) w = Ac (An p w) 0 w := by
 obtain ⟨hw, k1, k2, kp⟩ := Ed h
 rw [(Ga h).2, Nw h]
 obtain ⟨n, rfl⟩ : ∃ n : Nat, w = (n : Int) := ⟨w.toNat, by omega⟩
 apply I8
 have e := Dz (Ia (Bc p n) n ++ Bc p n) 0 n
 have hl : (Ab (Ia (Bc p (n : Int)) n)).length = n := by rw [Br, E3 hw]; exact Int.toNat_natCast n
 refine Eq.trans ?_ e.symm
 rw [Cu, List.drop_zero, Nat.sub_zero, List.take_append_of_le_length (by omega), List.take_of_length_le (by omega)]
theorem Aa7 {p : Pg} {w : Int} (h : Be p w = true) :
  (Ea (strOfNums [IntKind.u8.wrap (nI (BitVec.ofInt 8 (Ah (An p w) 0) ^^^ BitVec.ofInt 8 1).toNat)] ++ Ac (An p w) 1 (nI (An p w).size)) w).2 = false := by
 obtain ⟨hw, k1, k2, kp⟩ := Ed h
 obtain ⟨hs, ht⟩ := Ga h
 obtain ⟨b0, b1⟩ := E2 (An p w) 0
 have hb := Aa6 ⟨(Ah (An p w) 0).toNat, by omega⟩
 have hn : (((Ah (An p w) 0).toNat : Nat) : Int) = Ah (An p w) 0 := by omega
 simp only [hn] at hb
 obtain ⟨hb1, hb2, hb3⟩ := hb
 have hb1 := beq_eq_false_iff_ne.1 hb1
 have hb2 := of_decide_eq_true hb2
 have hb3 := of_decide_eq_true hb3
 generalize IntKind.u8.wrap (nI (BitVec.ofInt 8 (Ah (An p w) 0) ^^^ BitVec.ofInt 8 1).toNat) = x' at hb1 hb2 hb3 ⊢
 have hx : Ab (strOfNums [x']) = [x'] := K8 _ (by
  show (decide (0 ≤ x') && decide (x' < 256) && true) = true
  rw [decide_eq_true hb2, decide_eq_true hb3]
  rfl)
 have hc : Ab (Ac (An p w) 1 (nI (An p w).size)) = (Ab (An p w)).drop 1 := by
  rw [hs]
  refine (Dz (An p w) 1 64).trans ?_
  rw [List.take_of_length_le (by rw [List.length_drop, Br, hs]; exact Nat.le_refl _)]
 obtain ⟨q, ok, hR⟩ : ∃ q ok, Ea (strOfNums [x'] ++ Ac (An p w) 1 (nI (An p w).size)) w = (q, ok) := ⟨_, _, rfl⟩
 rw [hR]
 cases ok with
 | false => rfl
 | true =>
  exfalso
  obtain ⟨r1, _, r3, r4⟩ := La hR
  obtain ⟨_, t2⟩ := Ga r4
  have hB : Ab (An q w) = x' :: (Ab (An p w)).drop 1 := by rw [r3, Cu, hx, hc]; rfl
  have hq64 : (An q w).size = 64 := by rw [r3]; exact r1
  have hbody : Bc q w = Bc p w := by
   rw [← ht, ← t2, hq64, hs]
   obtain ⟨n, rfl⟩ : ∃ n : Nat, w = (n : Int) := ⟨w.toNat, by omega⟩
   apply I8
   have e1 := Dz (An q (n : Int)) n 64
   have e2 := Dz (An p (n : Int)) n 64
   rw [hB] at e1
   have e3 : ((Ab (An p (n : Int))).drop 1 |>.drop (n - 1)) = (Ab (An p (n : Int))).drop n := by
    rw [List.drop_drop]
    exact congrArg (fun m => List.drop m (Ab (An p (n : Int)))) (by omega)
   have e4 : (x' :: (Ab (An p (n : Int))).drop 1).drop n = (Ab (An p (n : Int))).drop n := by
    rw [← e3]
    obtain ⟨m, hm⟩ : ∃ m, n = m + 1 := ⟨n - 1, by omega⟩
    rw [hm, List.drop_succ_cons, Nat.add_sub_cancel]
   rw [e4] at e1
   exact e1.trans e2.symm
  have e : An q w = An p w := by rw [Nw r4, Nw h, hbody]
  rw [e] at hB
  have h0 := F9 (An p w) 0
  rw [hB] at h0
  exact hb1 h0.symm
end Go.Proofs.Ytkfoebbjncngjaa.V

