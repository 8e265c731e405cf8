/- Pages written and read; logs laid down and scanned. No condition. -/
import Derived.Test.YtkfoebbjncngjaaQS
namespace Go.Proofs.Ytkfoebbjncngjaa.V
open Go Go.Proofs.Ytkfoebbjncngjaa.R
set_option linter.unusedVariables false
set_option linter.unusedSimpArgs false
theorem Adh {w : Int} (h : Cb w 1 8 = true) : (Je zS w).2 = false := by
 obtain ⟨h1, h2⟩ := Ei h
 have : w = 1 ∨ w = 2 ∨ w = 3 ∨ w = 4 ∨ w = 5 ∨ w = 6 ∨ w = 7 ∨ w = 8 := by omega
 rcases this with rfl | rfl | rfl | rfl | rfl | rfl | rfl | rfl <;> decide +kernel
theorem Z7 (s : ByteArray) : s ++ ⟨#[]⟩ = s := Rv (by rw [F1]; exact List.append_nil _)
def cat : List ByteArray → ByteArray
 | [] => ⟨#[]⟩
 | p :: r => p ++ cat r
theorem Afj {s : ByteArray} {n : Int} (h0 : 0 ≤ n) (h1 : n ≤ (s.size : Int)) : Ad s 0 n ++ Ad s n (nI s.size) = s := by
 unfold Ad
 have e1 : Int.toNat 0 = 0 := rfl
 have e2 : Int.toNat (nI s.size) = s.size := by simp [nI]
 rw [e1, e2, ByteArray.extract_append_extract]
 rw [Nat.min_eq_left (Nat.zero_le _), Nat.max_eq_right (by omega)]
 exact ByteArray.extract_zero_size
theorem p7 (n : Nat) (hn : 1 ≤ n) : ∀ (f : Nat) (s : ByteArray), s.size ≤ f → (∀ p ∈ Bb n f s, p.size ≤ n) ∧ cat (Bb n f s) = s ∧ Bb n f s ≠ []
 | 0, s, h => by
  have e : cat [s] = s := Z7 s
  exact ⟨fun p hp => by rw [List.mem_singleton.1 hp]; omega, e, by simp [Bb]⟩
 | f + 1, s, h => by
  unfold Bb
  by_cases q : s.size > n
  ·rw [if_pos q]
   have z1 := D8 (s := s) (a := 0) (b := (n : Int)) (by omega) (by omega) (by omega)
   have z2 := D8 (s := s) (a := (n : Int)) (b := nI s.size) (by omega) (by simp only [nI]; omega) (Int.le_refl _)
   obtain ⟨k1, k2, _⟩ := p7 n hn f (Ad s n (nI s.size)) (by simp only [nI] at *; omega)
   refine ⟨fun p hp => ?_, ?_, by simp⟩
   ·rcases List.mem_cons.1 hp with e | e
    ·rw [e]; omega
    ·exact k1 p e
   ·show Ad s 0 n ++ cat (Bb n f (Ad s n (nI s.size))) = s
    rw [k2]
    exact Afj (by omega) (by omega)
  ·rw [if_neg q]
   have e : cat [s] = s := Z7 s
   exact ⟨fun p hp => by rw [List.mem_singleton.1 hp]; omega, e, by simp⟩
theorem Mp (e : ByteArray) {w : Int} (h : Cb w 1 8 = true) : (∀ p ∈ Ag e w, (p.size : Int) ≤ 56 - w) ∧ cat (Ag e w) = e ∧ Ag e w ≠ [] := by
 obtain ⟨h1, h2⟩ := Ei h
 obtain ⟨k1, k2, k3⟩ := p7 (56 - w).toNat (by omega) e.size e (Nat.le_refl _)
 exact ⟨fun p hp => by have := k1 p hp; omega, k2, k3⟩
theorem Nl {w first i : Int} {st : ScT} {x : ByteArray} {r : List ByteArray} (h : Lc w first i st x = true) : Bl w first (x :: r) i st = Bl w first r (i + 1) (Gc i (Je x w).1 st) := by
 show (bif Lc w first i st x then _ else _) = _
 rw [h]
 rfl
theorem Nm {w first i : Int} {st : ScT} {x : ByteArray} {r : List ByteArray} (h : Lc w first i st x = false) : Bl w first (x :: r) i st = Fm st := by
 show (bif Lc w first i st x then _ else _) = _
 rw [h]
 rfl
theorem G3 {w first i : Int} {st : ScT} {p : Pg} (h : Bk p w = true) : Lc w first i st (A8 p w) = (p.2.2.1 - i == first && S1 st.1 st.2.1 p) := by
 unfold Lc
 rw [H7 h]
 rfl
theorem Ld {w life k n : Int} {p : ByteArray} (hw : Cb w 1 8 = true) (hl : Cb life 1 60000 = true) (hk : k = 1 ∨ k = 2) (h1 : 1 ≤ n) (h2 : n ≤ 1000000000) (hp : (p.size : Int) ≤ 56 - w) : Bk (k, life, n, p, ()) w = true := by
 unfold Bk
 simp only
 rw [hw, hl, decide_eq_true hp]
 have e1 : Cb k 1 4 = true := by rcases hk with rfl | rfl <;> rfl
 have e2 : Cb n 1 1000000000 = true := by unfold Cb; rw [decide_eq_true h1, decide_eq_true h2]; rfl
 have e3 : (k != 3) = true := by rcases hk with rfl | rfl <;> rfl
 rw [e1, e2, e3]
 rfl
theorem Nn {k life wk wl : Int} {n : Int} {p : ByteArray} (hk : k = 1 ∨ k = 2) (h1 : wl ≤ life) (h2 : wk = 1 → wl = life) : S1 wk wl (k, life, n, p, ()) = true := by
 unfold S1
 simp only
 rw [decide_eq_false (show ¬ life < wl by omega)]
 by_cases q : wk = 1
 ·have := h2 q
  subst this
  rcases hk with rfl | rfl <;> simp
 ·have : (wk != 1) = true := bne_iff_ne.2 q
  rcases hk with rfl | rfl <;> simp [this]
theorem V4 {w first life : Int} (hw : Cb w 1 8 = true) (hl : Cb life 1 60000 = true) (rest : List ByteArray) : ∀ (P : List ByteArray) (i : Int) (st : ScT), P ≠ [] → (∀ p ∈ P, (p.size : Int) ≤ 56 - w) → 1 ≤ first + i → first + i + P.length ≤ 1000000001 →
  st.2.1 ≤ life → (st.1 = 1 → st.2.1 = life) → Bl w first (Ep life w (first + i) P ++ rest) i st = Bl w first rest (i + P.length) (2, life, z0, st.2.2.2.1 ++ [st.2.2.1 ++ cat P], i + P.length, life)
 | [], _, _, h, _, _, _, _, _ => absurd rfl h
 | [p], i, st, _, hs, h1, h2, h3, h4 => by
  have ok : Bk (2, life, first + i, p, ()) w = true := Ld hw hl (.inr rfl) h1 (by simp only [List.length_singleton] at h2; omega) (hs p (by simp))
  show Bl w first (A8 (2, life, first + i, p, ()) w :: rest) i st = _
  rw [Nl (by rw [G3 ok, Nn (.inr rfl) h3 h4]; simp), H7 ok]
  have e : cat [p] = p := Z7 p
  rw [e]
  rfl
 | p :: q :: r, i, st, _, hs, h1, h2, h3, h4 => by
  simp only [List.length_cons] at h2
  have ok : Bk (1, life, first + i, p, ()) w = true := Ld hw hl (.inl rfl) h1 (by omega) (hs p (by simp))
  show Bl w first (A8 (1, life, first + i, p, ()) w :: (Ep life w (first + i + 1) (q :: r) ++ rest)) i st = _
  rw [Nl (by rw [G3 ok, Nn (.inl rfl) h3 h4]; simp), H7 ok, show first + i + 1 = first + (i + 1) by omega]
  rw [V4 hw hl rest (q :: r) (i + 1) _ (by simp) (fun x hx => hs x (by simp only [List.mem_cons] at hx ⊢; exact .inr hx)) (by omega) (by simp only [List.length_cons]; omega) (Int.le_refl life) (fun _ => rfl)]
  have e1 : i + 1 + ((q :: r).length : Int) = i + ((p :: q :: r).length : Int) := by simp only [List.length_cons]; omega
  have e2 : (Gc i (1, life, first + i, p, ()) st).2.2.2.1 = st.2.2.2.1 := rfl
  have e3 : (Gc i (1, life, first + i, p, ()) st).2.2.1 = st.2.2.1 ++ p := rfl
  have e4 : cat (p :: q :: r) = p ++ cat (q :: r) := rfl
  rw [e1, e2, e3, e4, ByteArray.append_assoc]
theorem Yx {w first life : Int} (hw : Cb w 1 8 = true) (hl : Cb life 1 60000 = true) (rest : List ByteArray) : ∀ (P : List ByteArray) (i : Int) (st : ScT) (m : Nat), m < P.length → (∀ p ∈ P, (p.size : Int) ≤ 56 - w) → 1 ≤ first + i → first + i + P.length ≤ 1000000001 →
  st.2.1 ≤ life → (st.1 = 1 → st.2.1 = life) → ∃ st' : ScT, st'.2.2.2 = st.2.2.2 ∧ (m = 0 → st' = st) ∧ (0 < m → st'.1 = 1 ∧ st'.2.1 = life) ∧ Bl w first ((Ep life w (first + i) P).take m ++ rest) i st = Bl w first rest (i + m) st'
 | P, i, st, 0, _, _, _, _, _, _ => ⟨st, rfl, fun _ => rfl, fun q => absurd q (by omega), by simp⟩
 | [], _, _, m + 1, h, _, _, _, _, _ => by simp at h
 | [p], _, _, m + 1, h, _, _, _, _, _ => by simp at h
 | p :: q :: r, i, st, m + 1, hm, hs, h1, h2, h3, h4 => by
  simp only [List.length_cons] at h2 hm
  have ok : Bk (1, life, first + i, p, ()) w = true := Ld hw hl (.inl rfl) h1 (by omega) (hs p (by simp))
  obtain ⟨st', k1, k0, k2, k3⟩ := Yx (first := first) hw hl rest (q :: r) (i + 1) (Gc i (1, life, first + i, p, ()) st) m (by simp only [List.length_cons]; omega) (fun x hx => hs x (by simp only [List.mem_cons] at hx ⊢; exact .inr hx)) (by omega) (by simp only [List.length_cons]; omega) (Int.le_refl life) (fun _ => rfl)
  have e3 : Bl w first ((Ep life w (first + i) (p :: q :: r)).take (m + 1) ++ rest) i st = Bl w first rest (i + ((m + 1 : Nat) : Int)) st' := by
   show Bl w first (A8 (1, life, first + i, p, ()) w :: ((Ep life w (first + i + 1) (q :: r)).take m ++ rest)) i st = _
   rw [Nl (by rw [G3 ok, Nn (.inl rfl) h3 h4]; simp), H7 ok, show first + i + 1 = first + (i + 1) by omega, k3]
   congr 1
   omega
  refine ⟨st', k1, fun q => absurd q (by omega), fun _ => ?_, e3⟩
  by_cases q0 : 0 < m
  ·exact k2 q0
  ·have : m = 0 := by omega
   rw [k0 this]
   exact ⟨rfl, rfl⟩
theorem Er.valid {d : Dk} (h : Er d) : Dv d = true := by
 unfold Dv Cb
 have h8 := h.n8
 have h2 := h.n200
 rw [decide_eq_true (show (8 : Int) ≤ (d.1.length : Int) by omega), decide_eq_true (show (d.1.length : Int) ≤ 200 by omega), decide_eq_true h.p300]
 simp only [Bool.true_and, Bool.and_eq_true, List.all_eq_true, decide_eq_true_eq, List.mem_range']
 refine ⟨fun i hi => h.sec i (by omega), fun i hi => ?_⟩
 obtain ⟨k1, k2, k3⟩ := h.pen i (by omega)
 unfold m8
 rw [decide_eq_true k1, decide_eq_true k2, decide_eq_true k3]
 rfl
def put (d : Dk) (a : Int) (x : ByteArray) : Dk := (d.1, d.2.1 ++ [(a, x, ())], ())
theorem Ag2 {d : Dk} {a b : Int} {x : ByteArray} : Z4 (put d a x) b = bif a == b then x else Z4 d b := by
 unfold Z4 put
 simp only [List.reverse_append, List.reverse_singleton, List.singleton_append, Ml]
structure LD (d : Dk) (L : List ByteArray) (k : Nat) : Prop where
 ok : Er d
 n : d.1.length = 100
 p : d.2.1.length ≤ k
 s : seen d 2 0 90 = L
theorem LD.len {d : Dk} {L : List ByteArray} {k : Nat} (h : LD d L k) : L.length = 90 := by rw [← h.s]; exact Qk _ _ _ _
theorem Afk {d : Dk} {j : Nat} {x : ByteArray} : seen (put d (2 + (j : Int)) x) 2 0 90 = (seen d 2 0 90).set j x := by
 apply List.ext_getElem
 ·rw [List.length_set, Qk, Qk]
 ·intro i h1 h2
  rw [List.getElem_set]
  unfold seen
  simp only [List.getElem_map, List.getElem_range', Ag2]
  by_cases q : j = i
  ·subst q
   rw [if_pos rfl, show (2 + (j : Int) == 2 + ((0 + 1 * j : Nat) : Int)) = true from beq_iff_eq.2 (by omega)]
   rfl
  ·rw [if_neg q, show (2 + (j : Int) == 2 + ((0 + 1 * i : Nat) : Int)) = false from beq_eq_false_iff_ne.2 (by omega)]
   rfl
theorem LD.put {d : Dk} {L : List ByteArray} {k : Nat} (h : LD d L k) (hk : k < 300) {j : Nat} (hj : j < 90) {x : ByteArray} (hx : x.size = 64) :
  Ka d [(false, 2 + (j : Int), x, ())] 1 = put d (2 + (j : Int)) x ∧ LD (put d (2 + (j : Int)) x) (L.set j x) (k + 1) := by
 have hp := h.p
 have e1 : opS d (false, 2 + (j : Int), x, ()) = V.put d (2 + (j : Int)) x := by
  unfold opS m8
  rw [h.n, decide_eq_true (show (0 : Int) ≤ 2 + (j : Int) by omega), decide_eq_true (show 2 + (j : Int) < ((100 : Nat) : Int) by omega), decide_eq_true (show x.size = 64 from hx), decide_eq_true (show d.2.1.length < 300 by omega)]
  rfl
 have e2 : Ka d [(false, 2 + (j : Int), x, ())] 1 = opS d (false, 2 + (j : Int), x, ()) := by
  unfold Ka
  rw [h.ok.valid]
  rfl
 refine ⟨e2.trans e1, ?_, h.n, ?_, ?_⟩
 ·rw [← e1]
  exact h.ok.op _
 ·show (d.2.1 ++ [_]).length ≤ k + 1
  rw [List.length_append, List.length_singleton]
  omega
 ·rw [← h.s]
  exact Afk
def lay (A : List ByteArray) : List ByteArray := A ++ List.replicate (90 - A.length) zS
theorem Ag3 {A : List ByteArray} {x : ByteArray} (h : A.length < 90) : (lay A).set A.length x = lay (A ++ [x]) := by
 unfold lay
 rw [List.length_append, List.length_singleton, List.set_append_right (h := Nat.le_refl _), Nat.sub_self]
 obtain ⟨m, hm⟩ : ∃ m, 90 - A.length = m + 1 := ⟨90 - A.length - 1, by omega⟩
 rw [hm, show 90 - (A.length + 1) = m by omega, List.replicate_succ, List.append_assoc]
 rfl
theorem LD.new : LD (K9 100) (lay []) 0 := by
 have e : K9 100 = (List.replicate 100 zS, [], ()) := rfl
 have hz : zS.size = 64 := by decide +kernel
 have ho : Er (K9 100) := by
  rw [e]
  exact ⟨by simp, by simp, Nat.zero_le _, fun i hi => by
   have hi : i < (List.replicate 100 zS).length := hi
   show ((List.replicate 100 zS).getD i z0).size = 64
   rw [List.getD_eq_getElem?_getD, List.getElem?_eq_getElem hi, Option.getD_some, List.getElem_replicate]
   exact hz, fun i hi => absurd hi (Nat.not_lt_zero _)⟩
 refine ⟨ho, by rw [e]; simp, Nat.le_refl _, ?_⟩
 show _ = List.replicate 90 zS
 refine List.eq_replicate_iff.2 ⟨Qk _ _ _ _, fun b hb => ?_⟩
 obtain ⟨k, hk, rfl⟩ := List.mem_map.1 hb
 have hk : k < 90 := by simp only [List.mem_range'] at hk; omega
 rw [e]
 show (List.replicate 100 zS).getD (Int.toNat (2 + (k : Int))) z0 = zS
 rw [List.getD_eq_getElem?_getD, List.getElem?_eq_getElem (by rw [List.length_replicate]; omega), Option.getD_some, List.getElem_replicate]
theorem LD.app {d : Dk} {A : List ByteArray} {k : Nat} (h : LD d (lay A) k) (hk : k < 300) (hA : A.length < 90) {x : ByteArray} (hx : x.size = 64) :
  Ka d [(false, 2 + (A.length : Int), x, ())] 1 = V.put d (2 + (A.length : Int)) x ∧ LD (V.put d (2 + (A.length : Int)) x) (lay (A ++ [x])) (k + 1) := by
 have := h.put hk (j := A.length) hA hx
 rwa [Ag3 hA] at this
theorem Adi (d : Dk) (a : Int) {m : Nat} (h : m ≤ 90) : seen d a 0 m = (seen d a 0 90).take m := by
 unfold seen
 rw [← List.map_take]
 congr 1
 apply List.ext_getElem
 ·simp
  omega
 ·intro i h1 h2
  simp
theorem LD.scan {d : Dk} {L : List ByteArray} {k : Nat} (h : LD d L k) {w : Int} (hw : Cb w 1 8 = true) (first life : Int) {m : Nat} (hm : m ≤ 90) :
  Qj d 2 (m : Int) first life w = Bl w first (L.take m) 0 (0, life, z0, [], 0, life) := by
 unfold Qj
 rw [h.ok.valid, hw, h.n, decide_eq_true (show (0 : Int) ≤ (m : Int) by omega), decide_eq_true (show (m : Int) ≤ ((100 : Nat) : Int) - 2 by omega), Int.toNat_natCast, Adi _ _ hm, h.s]
 rfl
theorem Yy {w : Int} (hw : Cb w 1 8 = true) (first i : Int) (st : ScT) (R : List ByteArray) : Bl w first (zS :: R) i st = Fm st := Nm (by
 unfold Lc
 rw [Adh hw]
 rfl)
theorem H8 {p : Pg} {w : Int} (h : Bk p w = true) : (A8 p w).size = 64 := (V1 (s := A8 p w) (w := w) (p := p) (H7 h)).1
theorem Aid (s : ByteArray) : z0 ++ s = s := Rv (by rw [F1]; rfl)
theorem Afl {s : ByteArray} {life first w : Int} (hw : Cb w 1 8 = true) (hl : Cb life 1 60000 = true) (h1 : 1 ≤ first) (h2 : first + (Ag s w).length ≤ 1000000001) : Lw s life first w = Ep life w first (Ag s w) := by
 have hp := Kc s w
 rw [hw, cond_true] at hp
 unfold Lw
 rw [hw, hl, ← hp, decide_eq_true h1, decide_eq_true (by omega)]
 rfl
theorem F2 {s : ByteArray} {w : Int} (hw : Cb w 1 8 = true) (hs : s.size ≤ 310) : 1 ≤ (Ag s w).length ∧ (Ag s w).length ≤ 10 := by
 have hp := G2 (s := s) hw
 obtain ⟨h1, h2⟩ := Ei hw
 have : w = 1 ∨ w = 2 ∨ w = 3 ∨ w = 4 ∨ w = 5 ∨ w = 6 ∨ w = 7 ∨ w = 8 := by omega
 rcases this with rfl | rfl | rfl | rfl | rfl | rfl | rfl | rfl <;> (split at hp <;> omega)
theorem Aa8 {w : Int} (hw : Cb w 1 8 = true) : (Ag ⟨#[]⟩ w).length = 1 := by
 have hp := G2 (s := ⟨#[]⟩) hw
 obtain ⟨h1, h2⟩ := Ei hw
 have hz : (⟨#[]⟩ : ByteArray).size = 0 := rfl
 rw [hz] at hp
 have : w = 1 ∨ w = 2 ∨ w = 3 ∨ w = 4 ∨ w = 5 ∨ w = 6 ∨ w = 7 ∨ w = 8 := by omega
 rcases this with rfl | rfl | rfl | rfl | rfl | rfl | rfl | rfl <;> (split at hp <;> omega)
theorem Adj {s : ByteArray} {w : Int} (hw : Cb w 1 8 = true) (hs : s.size = 120) : 2 ≤ (Ag s w).length := by
 have hp := G2 (s := s) hw
 rw [hs] at hp
 obtain ⟨h1, h2⟩ := Ei hw
 have : w = 1 ∨ w = 2 ∨ w = 3 ∨ w = 4 ∨ w = 5 ∨ w = 6 ∨ w = 7 ∨ w = 8 := by omega
 rcases this with rfl | rfl | rfl | rfl | rfl | rfl | rfl | rfl <;> (split at hp <;> omega)
theorem p8 (life w n : Int) : ∀ P : List ByteArray, P ≠ [] → ∃ k p r, (k = 1 ∨ k = 2) ∧ p ∈ P ∧ (2 ≤ P.length → k = 1) ∧ Ep life w n P = A8 (k, life, n, p, ()) w :: r
 | [], h => absurd rfl h
 | [p], _ => ⟨2, p, _, .inr rfl, by simp, fun q => by simp at q, rfl⟩
 | p :: q :: r, _ => ⟨1, p, _, .inl rfl, by simp, fun _ => rfl, rfl⟩
theorem Ach {life w : Int} (hw : Cb w 1 8 = true) (hl : Cb life 1 60000 = true) : ∀ (P : List ByteArray) (n : Int), (∀ p ∈ P, (p.size : Int) ≤ 56 - w) → 1 ≤ n → n + P.length ≤ 1000000001 → ∀ x ∈ Ep life w n P, x.size = 64
 | [], _, _, _, _, x, hx => by cases hx
 | [p], n, hs, h1, h2, x, hx => by
  have : x = A8 (2, life, n, p, ()) w := List.mem_singleton.1 hx
  subst this
  exact H8 (Ld hw hl (.inr rfl) h1 (by simp only [List.length_singleton] at h2; omega) (hs p (by simp)))
 | p :: q :: r, n, hs, h1, h2, x, hx => by
  simp only [List.length_cons] at h2
  have hx : x = A8 (1, life, n, p, ()) w ∨ x ∈ Ep life w (n + 1) (q :: r) := List.mem_cons.1 hx
  rcases hx with rfl | hx
  ·exact H8 (Ld hw hl (.inl rfl) h1 (by omega) (hs p (by simp)))
  ·exact Ach hw hl (q :: r) (n + 1) (fun y hy => hs y (List.mem_cons_of_mem _ hy)) (by omega) (by simp only [List.length_cons]; omega) x hx
def G4 (life w first : Int) (A : List ByteArray) (s : ByteArray) : List ByteArray := A ++ Ep life w (first + (A.length : Int)) (Ag s w)
theorem Kd (life w first : Int) (A : List ByteArray) (s : ByteArray) : (G4 life w first A s).length = A.length + (Ag s w).length := by
 unfold G4
 rw [List.length_append, (Lb _ _ _ _).1]
def SA (w first : Int) (st0 : ScT) (A : List ByteArray) (st : ScT) : Prop := ∀ rest, Bl w first (A ++ rest) 0 st0 = Bl w first rest (A.length : Int) st
theorem SA.nil (w first : Int) (st0 : ScT) : SA w first st0 [] st0 := fun _ => rfl
theorem SA.add {w first life : Int} {st0 st : ScT} {A : List ByteArray} (h : SA w first st0 A st) (hw : Cb w 1 8 = true) (hl : Cb life 1 60000 = true) (s : ByteArray) (hz : st.2.2.1 = z0) (h1 : 1 ≤ first) (h2 : first + (G4 life w first A s).length ≤ 1000000001) (h3 : st.2.1 ≤ life) (h4 : st.1 ≠ 1) :
  SA w first st0 (G4 life w first A s) (2, life, z0, st.2.2.2.1 ++ [s], ((G4 life w first A s).length : Int), life) := fun rest => by
 obtain ⟨k1, k2, k3⟩ := Mp s hw
 rw [Kd] at h2 ⊢
 unfold G4
 rw [List.append_assoc, h, V4 hw hl rest _ _ st k3 k1 (by omega) (by omega) h3 (fun q => absurd q h4), k2, hz, Aid, ← Int.natCast_add]
theorem SA.part {w first life : Int} {st0 st : ScT} {A : List ByteArray} (h : SA w first st0 A st) (hw : Cb w 1 8 = true) (hl : Cb life 1 60000 = true) (s : ByteArray) (h1 : 1 ≤ first) (h2 : first + (G4 life w first A s).length ≤ 1000000001) (h3 : st.2.1 ≤ life) (h4 : st.1 ≠ 1) (rest : List ByteArray) :
  ∃ (st' : ScT) (i : Int), st'.2.2.2 = st.2.2.2 ∧ Bl w first ((G4 life w first A s).take ((G4 life w first A s).length - 1) ++ rest) 0 st0 = Bl w first rest i st' := by
 obtain ⟨k1, k2, k3⟩ := Mp s hw
 have hp : 0 < (Ag s w).length := List.length_pos_iff.2 k3
 have e1 : (G4 life w first A s).take ((G4 life w first A s).length - 1) = A ++ (Ep life w (first + (A.length : Int)) (Ag s w)).take ((Ag s w).length - 1) := by
  rw [Kd, show A.length + (Ag s w).length - 1 = A.length + ((Ag s w).length - 1) by omega]
  unfold G4
  rw [List.take_length_add_append]
 rw [Kd] at h2
 obtain ⟨st', q1, _, _, q2⟩ := Yx (first := first) hw hl rest (Ag s w) (A.length : Int) st ((Ag s w).length - 1) (by omega) k1 (by omega) (by omega) h3 (fun q => absurd q h4)
 refine ⟨st', (A.length : Int) + (((Ag s w).length - 1 : Nat) : Int), q1, ?_⟩
 rw [e1, List.append_assoc, h, q2]
structure LG (w first life : Int) (st0 : ScT) (d : Dk) (A : List ByteArray) (st : ScT) : Prop where
 d : LD d (lay A) A.length
 s : SA w first st0 A st
theorem Adk {α : Type} {l R : List α} {x : α} {i : Nat} (h : l.drop i = x :: R) : i < l.length ∧ (∀ z, l.getD i z = x) ∧ l.drop (i + 1) = R := by
 have hi : i < l.length := by
  rcases Nat.lt_or_ge i l.length with q | q
  ·exact q
  ·rw [List.drop_eq_nil_of_le q] at h
   cases h
 rw [List.drop_eq_getElem_cons hi] at h
 injection h with h1 h2
 exact ⟨hi, fun z => by rw [List.getD_eq_getElem?_getD, List.getElem?_eq_getElem hi, Option.getD_some, h1], h2⟩
theorem Afm {A : List ByteArray} (h : A.length < 90) : ∃ R, lay A = A ++ (zS :: R) := by
 obtain ⟨m, hm⟩ : ∃ m, 90 - A.length = m + 1 := ⟨90 - A.length - 1, by omega⟩
 exact ⟨List.replicate m zS, by unfold lay; rw [hm, List.replicate_succ]⟩
theorem Aci {A : List ByteArray} (h : A.length < 89) (x y : ByteArray) : ∃ R, (lay A).set A.length x = A ++ (x :: R) ∧ ((lay A).set A.length x).set (A.length + 1) y = A ++ (x :: y :: R.tail) := by
 obtain ⟨m, hm⟩ : ∃ m, 90 - A.length = m + 1 + 1 := ⟨90 - A.length - 2, by omega⟩
 refine ⟨List.replicate (m + 1) zS, ?_, ?_⟩
 ·unfold lay
  rw [hm, List.replicate_succ, List.set_append_right (h := Nat.le_refl _), Nat.sub_self]
  rfl
 ·unfold lay
  rw [hm, List.replicate_succ, List.set_append_right (h := Nat.le_refl _), Nat.sub_self, List.set_append_right (h := by omega), show A.length + 1 - A.length = 1 by omega, List.replicate_succ]
  rfl
theorem Ag4 {A : List ByteArray} (h0 : 0 < A.length) (h : A.length < 90) (x : ByteArray) : ∃ R, (lay A).set (A.length - 1) x = A.take (A.length - 1) ++ (x :: R) := by
 unfold lay
 rw [List.set_append_left (h := by omega)]
 have : A.set (A.length - 1) x = A.take (A.length - 1) ++ [x] := by
  rw [List.set_eq_take_append_cons_drop, if_pos (by omega), List.drop_eq_nil_of_le (by omega)]
 rw [this, List.append_assoc]
 exact ⟨_, rfl⟩
theorem Afn {A : List ByteArray} (h : A.length ≤ 90) : (lay A).take (A.length - 1) = A.take (A.length - 1) ++ [] := by
 unfold lay
 rw [List.take_append_of_le_length (by omega), List.append_nil]
theorem Afo {w first i life k n : Int} {st : ScT} {p : ByteArray} {R : List ByteArray} (ok : Bk (k, life, n, p, ()) w = true) (h : life < st.2.1) : Bl w first (A8 (k, life, n, p, ()) w :: R) i st = Fm st := Nm (by
 rw [G3 ok]
 unfold S1
 simp only
 rw [decide_eq_true h]
 simp)
theorem Afp {w first i life k n : Int} {st : ScT} {p : ByteArray} {R : List ByteArray} (ok : Bk (k, life, n, p, ()) w = true) (h : n - i ≠ first) : Bl w first (A8 (k, life, n, p, ()) w :: R) i st = Fm st := Nm (by
 rw [G3 ok, beq_eq_false_iff_ne.2 h]
 rfl)
theorem Aa9 {w first i life k n : Int} {st : ScT} {p : ByteArray} {R : List ByteArray} (ok : Bk (k, life, n, p, ()) w = true) (hk : k = 1 ∨ k = 2 ∨ k = 3) (h1 : st.1 = 1) (h : st.2.1 ≠ life) : Bl w first (A8 (k, life, n, p, ()) w :: R) i st = Fm st := Nm (by
 rw [G3 ok]
 have : S1 st.1 st.2.1 (k, life, n, p, ()) = false := by
  unfold S1
  simp only
  rw [h1, beq_eq_false_iff_ne.2 h]
  rcases hk with rfl | rfl | rfl <;> simp
 rw [this, Bool.and_false])
theorem Afq {a b : ScT} (h : a.2.2.2 = b.2.2.2) : Fm a = Fm b := by unfold Fm; rw [h]
structure Hu (w first life : Int) (e e3 : ByteArray) : Prop where
 w : Cb w 1 8 = true
 l0 : 1 ≤ life
 l1 : life ≤ 59998
 f0 : 1 ≤ first
 f1 : first ≤ 999999900
 e : e.size ≤ 310
 e3 : e3.size ≤ 310
def Afr (w first life : Int) (e : ByteArray) : List ByteArray := G4 (life + 1) w first [] e
def W7 (w first life : Int) (e : ByteArray) : List ByteArray := G4 (life + 1) w first (Afr w first life e) ⟨#[]⟩
def F4 (w first life : Int) (e e3 : ByteArray) : List ByteArray := G4 (life + 1) w first (W7 w first life e) e3
abbrev lst (life : Int) : ScT := (0, life, z0, [], 0, life)
section
variable {w first life : Int} {e e3 : ByteArray} (h : Hu w first life e e3)
include h
theorem Hu.l : Cb (life + 1) 1 60000 = true := by
 unfold Cb
 rw [decide_eq_true (show 1 ≤ life + 1 by have := h.l0; omega), decide_eq_true (show life + 1 ≤ 60000 by have := h.l1; omega)]
 rfl
theorem Hu.len : (Afr w first life e).length = (Ag e w).length ∧ (W7 w first life e).length = (Ag e w).length + 1 ∧ (F4 w first life e e3).length = (Ag e w).length + 1 + (Ag e3 w).length := by
 have q1 : (Afr w first life e).length = (Ag e w).length := by unfold Afr; rw [Kd]; simp
 have q2 : (W7 w first life e).length = (Ag e w).length + 1 := by unfold W7; rw [Kd, q1, Aa8 h.w]
 exact ⟨q1, q2, by unfold F4; rw [Kd, q2]⟩
theorem Hu.num : 3 ≤ (F4 w first life e e3).length ∧ (F4 w first life e e3).length ≤ 21 := by
 have a := F2 h.w h.e
 have b := F2 h.w h.e3
 have := h.len.2.2
 omega
theorem Hu.s2 : SA w first (lst life) (W7 w first life e) (2, life + 1, z0, [e, ⟨#[]⟩], ((W7 w first life e).length : Int), life + 1) := by
 obtain ⟨k1, k2, k3⟩ := h.len
 have kn := h.num
 have hf := h.f1
 have a := (SA.nil w first (lst life)).add (life := life + 1) h.w h.l e rfl h.f0 (by have : (G4 (life + 1) w first [] e).length = (Ag e w).length := k1; omega) (by show life ≤ life + 1; omega) (by decide : (0 : Int) ≠ 1)
 exact a.add h.w h.l ⟨#[]⟩ rfl h.f0 (by have : (G4 (life + 1) w first (G4 (life + 1) w first [] e) ⟨#[]⟩).length = (Ag e w).length + 1 := k2; omega) (Int.le_refl _) (by decide : (2 : Int) ≠ 1)
theorem Hu.s3 : SA w first (lst life) (F4 w first life e e3) (2, life + 1, z0, [e, ⟨#[]⟩, e3], ((F4 w first life e e3).length : Int), life + 1) := by
 obtain ⟨k1, k2, k3⟩ := h.len
 have kn := h.num
 have hf := h.f1
 exact h.s2.add h.w h.l e3 rfl h.f0 (by have : (G4 (life + 1) w first (W7 w first life e) e3).length = (Ag e w).length + 1 + (Ag e3 w).length := k3; omega) (Int.le_refl _) (by decide : (2 : Int) ≠ 1)
theorem Hu.part (R : List ByteArray) (hR : ∀ i st, Bl w first R i st = Fm st) :
  Bl w first ((F4 w first life e e3).take ((F4 w first life e e3).length - 1) ++ R) 0 (lst life) = ([e, ⟨#[]⟩], ((Ag e w).length : Int) + 1, life + 1, ()) := by
 obtain ⟨k1, k2, k3⟩ := h.len
 have kn := h.num
 have hf := h.f1
 obtain ⟨st', i, q1, q2⟩ := h.s2.part h.w h.l e3 h.f0 (by have : (G4 (life + 1) w first (W7 w first life e) e3).length = (Ag e w).length + 1 + (Ag e3 w).length := k3; omega) (Int.le_refl _) (by decide : (2 : Int) ≠ 1) R
 have q2 : Bl w first ((F4 w first life e e3).take ((F4 w first life e e3).length - 1) ++ R) 0 (lst life) = Bl w first R i st' := q2
 rw [q2, hR, Afq q1]
 show ([e, ⟨#[]⟩], ((W7 w first life e).length : Int), life + 1, ()) = _
 rw [k2]
 rfl
variable {d : Dk} (hd : LD d (lay (F4 w first life e e3)) (F4 w first life e e3).length)
include hd
theorem Hu.t0 : Qj d 2 90 first life w = ([e, ⟨#[]⟩, e3], ((F4 w first life e e3).length : Int), life + 1, ()) := by
 have kn := h.num
 obtain ⟨R, hR⟩ := Afm (A := F4 w first life e e3) (by omega)
 have q := hd.scan h.w first life (m := 90) (Nat.le_refl _)
 rw [List.take_of_length_le (by rw [hd.len]; omega), hR] at q
 exact q.trans ((h.s3 _).trans (Yy h.w _ _ _ _))
omit hd in
theorem Hu.t1 {R : List ByteArray} {d' : Dk} {k : Nat} (hd' : LD d' (F4 w first life e e3 ++ R) k) (hs : ∀ i, i = ((F4 w first life e e3).length : Int) → Fm ((2, life + 1, z0, [e, ⟨#[]⟩, e3], ((F4 w first life e e3).length : Int), life + 1) : ScT) = Bl w first R i (2, life + 1, z0, [e, ⟨#[]⟩, e3], ((F4 w first life e e3).length : Int), life + 1)) :
  Qj d' 2 90 first life w = ([e, ⟨#[]⟩, e3], ((F4 w first life e e3).length : Int), life + 1, ()) := by
 have q := hd'.scan h.w first life (m := 90) (Nat.le_refl _)
 rw [List.take_of_length_le (by rw [hd'.len]; omega)] at q
 exact q.trans ((h.s3 _).trans (hs _ rfl).symm)
theorem Hu.t_cut {m : Int} (hm : m = ((F4 w first life e e3).length : Int) - 1) : Qj d 2 m first life w = ([e, ⟨#[]⟩], ((Ag e w).length : Int) + 1, life + 1, ()) := by
 have kn := h.num
 have e1 : m = (((F4 w first life e e3).length - 1 : Nat) : Int) := by omega
 rw [e1]
 refine (hd.scan h.w first life (by omega)).trans ?_
 rw [Afn (by omega)]
 exact h.part [] fun _ _ => rfl
omit hd in
theorem Hu.t_short {d' : Dk} {k : Nat} (hd' : LD d' ((lay (F4 w first life e e3)).set ((F4 w first life e e3).length - 1) zS) k) : Qj d' 2 90 first life w = ([e, ⟨#[]⟩], ((Ag e w).length : Int) + 1, life + 1, ()) := by
 have kn := h.num
 obtain ⟨R, hR⟩ := Ag4 (A := F4 w first life e e3) (by omega) (by omega) zS
 have q := hd'.scan h.w first life (m := 90) (Nat.le_refl _)
 rw [List.take_of_length_le (by rw [hd'.len]; omega), hR] at q
 exact q.trans (h.part _ fun _ _ => Yy h.w _ _ _ _)
theorem Hu.t_next : Qj d 2 90 (first + 1) life w = ([], 0, life, ()) := by
 have kn := h.num
 have hf := h.f1
 have q := hd.scan h.w (first + 1) life (m := 90) (Nat.le_refl _)
 rw [List.take_of_length_le (by rw [hd.len]; omega)] at q
 refine q.trans ?_
 obtain ⟨k1, _, k3⟩ := Mp e h.w
 obtain ⟨k, p, r, g1, g2, _, g4⟩ := p8 (life + 1) w (first + (([] : List ByteArray).length : Int)) (Ag e w) k3
 have e1 : ∃ R, lay (F4 w first life e e3) = A8 (k, life + 1, first + (([] : List ByteArray).length : Int), p, ()) w :: R := by
  unfold lay F4 W7 Afr
  unfold G4
  rw [List.nil_append, g4]
  exact ⟨_, rfl⟩
 obtain ⟨R, hR⟩ := e1
 rw [hR]
 have ok : Bk (k, life + 1, first + (([] : List ByteArray).length : Int), p, ()) w = true := Ld h.w h.l g1 (by have := h.f0; simp; omega) (by simp; omega) (k1 p g2)
 exact Afp ok (by simp; omega)
end
end Go.Proofs.Ytkfoebbjncngjaa.V

