/- Pairs in the order of their keys. No condition. -/
import Derived.Test.YteaoabdlcefkhaaGreatQS
namespace Go.Proofs.YteaoabdlcefkhaaGreat.V
open Go Go.Proofs.YteaoabdlcefkhaaGreat.R
set_option linter.unusedVariables false
set_option linter.unusedSimpArgs false
theorem Akd : ∀ x : List UInt8, Op.bytesLess x x = false
 | [] => rfl
 | a :: x => by simp [Op.bytesLess, Akd x]
theorem Aon : ∀ {x y z : List UInt8}, Op.bytesLess x y = true → Op.bytesLess y z = true → Op.bytesLess x z = true
 | [], [], _, h, _ => by simp [Op.bytesLess] at h
 | [], _ :: _, [], _, k => by simp [Op.bytesLess] at k
 | [], _ :: _, _ :: _, _, _ => rfl
 | _ :: _, [], _, h, _ => by simp [Op.bytesLess] at h
 | _ :: _, _ :: _, [], _, k => by simp [Op.bytesLess] at k
 | a :: x, b :: y, c :: z, h, k => by
  simp only [Op.bytesLess, Bool.or_eq_true, decide_eq_true_eq, Bool.and_eq_true, beq_iff_eq] at h k ⊢
  rcases h with h | ⟨rfl, h⟩
  ·rcases k with k | ⟨rfl, k⟩
   ·exact .inl (UInt8.lt_trans h k)
   ·exact .inl h
  ·rcases k with k | ⟨rfl, k⟩
   ·exact .inl k
   ·exact .inr ⟨rfl, Aon h k⟩
theorem Awp : ∀ {x y : List UInt8}, Op.bytesLess x y = false → Op.bytesLess y x = false → x = y
 | [], [], _, _ => rfl
 | [], _ :: _, h, _ => by simp [Op.bytesLess] at h
 | _ :: _, [], _, k => by simp [Op.bytesLess] at k
 | a :: x, b :: y, h, k => by
  simp only [Op.bytesLess, Bool.or_eq_false_iff, decide_eq_false_iff_not, Bool.and_eq_false_iff] at h k
  have hab : a = b := by
   apply UInt8.le_antisymm
   ·exact UInt8.not_lt.1 k.1
   ·exact UInt8.not_lt.1 h.1
  subst hab
  have h2 : Op.bytesLess x y = false := by rcases h.2 with q | q <;> simp_all
  have k2 : Op.bytesLess y x = false := by rcases k.2 with q | q <;> simp_all
  rw [Awp h2 k2]
theorem T8 (a : ByteArray) : bl a a = false := Akd _
theorem T9 {a b c : ByteArray} (h : bl a b = true) (k : bl b c = true) : bl a c = true := Aon h k
theorem Ap4 {a b : ByteArray} (h : bl a b = false) (k : bl b a = false) : a = b := Ft.1 (beq_iff_eq.2 (Awp h k))
theorem A1y {a b : ByteArray} (h : bl a b = true) : a ≠ b := fun q => by rw [q, T8] at h; cases h
def Srt (l : List Pr2) : Prop := l.Pairwise fun a b => bl a.1 b.1 = true
theorem Ap5 : ∀ {l m : List Pr2}, Srt l → Srt m → (∀ x, x ∈ l ↔ x ∈ m) → l = m
 | [], [], _, _, _ => rfl
 | [], b :: m, _, _, h => by have := (h b).2 List.mem_cons_self; cases this
 | a :: l, [], _, _, h => by have := (h a).1 List.mem_cons_self; cases this
 | a :: l, b :: m, hl, hm, h => by
  obtain ⟨l1, l2⟩ := List.pairwise_cons.1 hl
  obtain ⟨m1, m2⟩ := List.pairwise_cons.1 hm
  have hab : a = b := by
   rcases List.mem_cons.1 ((h a).1 List.mem_cons_self) with q | q
   ·exact q
   ·rcases List.mem_cons.1 ((h b).2 List.mem_cons_self) with q2 | q2
    ·exact q2.symm
    ·have := T9 (m1 a q) (l1 b q2)
     rw [T8] at this
     cases this
  subst hab
  rw [Ap5 l2 m2 fun x => ⟨fun q => ?_, fun q => ?_⟩]
  ·rcases List.mem_cons.1 ((h x).1 (List.mem_cons_of_mem _ q)) with rfl | q2
   ·have := l1 x q; rw [T8] at this; cases this
   ·exact q2
  ·rcases List.mem_cons.1 ((h x).2 (List.mem_cons_of_mem _ q)) with rfl | q2
   ·have := m1 x q; rw [T8] at this; cases this
   ·exact q2
theorem Ake (p x : Pr2) : ∀ l : List Pr2, x ∈ Ago p l ↔ x = p ∨ x ∈ l
 | [] => by simp [Ago]
 | q :: r => by
  simp only [Ago]
  cases ltK q p with
  | true => simp only [cond_true, List.mem_cons, Ake p x r]; constructor <;> (rintro (h | h | h) <;> simp [h])
  | false => simp only [cond_false, List.mem_cons]
theorem Zn (x : Pr2) : ∀ l : List Pr2, x ∈ L5 l ↔ x ∈ l
 | [] => Iff.rfl
 | p :: r => by
  show x ∈ Ago p (L5 r) ↔ _
  rw [Ake, Zn x r, List.mem_cons]
theorem As2 {p : Pr2} : ∀ {l : List Pr2}, Srt l → (∀ q ∈ l, q.1 ≠ p.1) → Srt (Ago p l)
 | [], _, _ => List.pairwise_singleton _ _
 | q :: r, hl, hp => by
  obtain ⟨l1, l2⟩ := List.pairwise_cons.1 hl
  simp only [Ago]
  cases hq : ltK q p with
  | true =>
   refine List.pairwise_cons.2 ⟨fun x hx => ?_, As2 l2 fun y hy => hp y (List.mem_cons_of_mem _ hy)⟩
   rcases (Ake p x r).1 hx with rfl | h
   ·exact hq
   ·exact l1 x h
  | false =>
   have hpq : bl p.1 q.1 = true := by
    cases h : bl p.1 q.1 with
    | true => rfl
    | false => exact absurd (Ap4 hq h) (hp q List.mem_cons_self)
   refine List.pairwise_cons.2 ⟨fun x hx => ?_, hl⟩
   rcases List.mem_cons.1 hx with rfl | h
   ·exact hpq
   ·exact T9 hpq (l1 x h)
theorem Ho {p : Pr2} {r : List Pr2} : Dr (p :: r) = true ↔ (∀ q ∈ r, q.1 ≠ p.1) ∧ Dr r = true := by
 simp only [Dr, Bool.and_eq_true, Bool.not_eq_true', List.any_eq_false]
 constructor
 ·rintro ⟨h1, h2⟩
  exact ⟨fun q hq e => h1 q hq (by rw [e]; simp), h2⟩
 ·rintro ⟨h1, h2⟩
  exact ⟨fun q hq e => h1 q hq (Ft.1 e), h2⟩
theorem Adv : ∀ {l : List Pr2}, Dr l = true → Srt (L5 l)
 | [], _ => List.Pairwise.nil
 | p :: r, h => by
  obtain ⟨h1, h2⟩ := Ho.1 h
  exact As2 (Adv h2) fun q hq => h1 q ((Zn q r).1 hq)
abbrev Mp := List (ByteArray × ByteArray)
def U7 (m : Mp) : List Pr2 := m.map fun p => (p.1, p.2, ())
theorem X6 {k v : ByteArray} (x : Pr2) : ∀ {m : Mp}, Dr (U7 m) = true → (x ∈ U7 (Qf k v m) ↔ (x ∈ U7 m ∧ x.1 ≠ k) ∨ x = (k, v, ()))
 | [], _ => by simp [Qf, U7]
 | p :: r, h => by
  obtain ⟨h1, h2⟩ := Ho.1 (show Dr ((p.1, p.2, ()) :: U7 r) = true from h)
  simp only [Qf]
  cases hk : Xg p.1 k with
  | true =>
   have hk := Ft.1 hk
   simp only [cond_true]
   show x ∈ (k, v, ()) :: U7 r ↔ (x ∈ (p.1, p.2, ()) :: U7 r ∧ _) ∨ _
   rw [List.mem_cons, List.mem_cons]
   constructor
   ·rintro (rfl | q)
    ·exact .inr rfl
    ·exact .inl ⟨.inr q, fun e => h1 x q (by rw [e, hk])⟩
   ·rintro (⟨q | q, e⟩ | q)
    ·subst q
     exact absurd hk e
    ·exact .inr q
    ·exact .inl q
  | false =>
   have hk : p.1 ≠ k := fun q => by rw [Ft.2 q] at hk; cases hk
   simp only [cond_false]
   show x ∈ (p.1, p.2, ()) :: U7 (Qf k v r) ↔ (x ∈ (p.1, p.2, ()) :: U7 r ∧ _) ∨ _
   rw [List.mem_cons, List.mem_cons, X6 x h2]
   constructor
   ·rintro (rfl | ⟨q, e⟩ | q)
    ·exact .inl ⟨.inl rfl, hk⟩
    ·exact .inl ⟨.inr q, e⟩
    ·exact .inr q
   ·rintro (⟨q | q, e⟩ | q)
    ·exact .inl q
    ·exact .inr (.inl ⟨q, e⟩)
    ·exact .inr (.inr q)
theorem n5 {k v : ByteArray} : ∀ {m : Mp}, Dr (U7 m) = true → Dr (U7 (Qf k v m)) = true
 | [], _ => rfl
 | p :: r, h => by
  obtain ⟨h1, h2⟩ := Ho.1 (show Dr ((p.1, p.2, ()) :: U7 r) = true from h)
  simp only [Qf]
  cases hk : Xg p.1 k with
  | true =>
   have hk := Ft.1 hk
   simp only [cond_true]
   exact Ho.2 ⟨fun q hq => by rw [← hk]; exact h1 q hq, h2⟩
  | false =>
   have hk : p.1 ≠ k := fun q => by rw [Ft.2 q] at hk; cases hk
   simp only [cond_false]
   refine Ho.2 ⟨fun q hq => ?_, n5 h2⟩
   rcases (X6 q h2).1 hq with ⟨a, _⟩ | rfl
   ·exact h1 q a
   ·exact fun e => hk e.symm
theorem Akf {k : ByteArray} (x : Pr2) : ∀ {m : Mp}, Dr (U7 m) = true → (x ∈ U7 (Xh k m) ↔ x ∈ U7 m ∧ x.1 ≠ k)
 | [], _ => by simp [Xh, U7]
 | p :: r, h => by
  obtain ⟨h1, h2⟩ := Ho.1 (show Dr ((p.1, p.2, ()) :: U7 r) = true from h)
  simp only [Xh]
  cases hk : Xg p.1 k with
  | true =>
   have hk := Ft.1 hk
   simp only [cond_true]
   show x ∈ U7 r ↔ x ∈ (p.1, p.2, ()) :: U7 r ∧ _
   rw [List.mem_cons]
   constructor
   ·intro q
    exact ⟨.inr q, fun e => h1 x q (by rw [e, hk])⟩
   ·rintro ⟨q | q, e⟩
    ·subst q
     exact absurd hk e
    ·exact q
  | false =>
   have hk : p.1 ≠ k := fun q => by rw [Ft.2 q] at hk; cases hk
   simp only [cond_false]
   show x ∈ (p.1, p.2, ()) :: U7 (Xh k r) ↔ x ∈ (p.1, p.2, ()) :: U7 r ∧ _
   rw [List.mem_cons, List.mem_cons, Akf x h2]
   constructor
   ·rintro (rfl | ⟨q, e⟩)
    ·exact ⟨.inl rfl, hk⟩
    ·exact ⟨.inr q, e⟩
   ·rintro ⟨q | q, e⟩
    ·exact .inl q
    ·exact .inr ⟨q, e⟩
theorem Akg {k : ByteArray} : ∀ {m : Mp}, Dr (U7 m) = true → Dr (U7 (Xh k m)) = true
 | [], _ => rfl
 | p :: r, h => by
  obtain ⟨h1, h2⟩ := Ho.1 (show Dr ((p.1, p.2, ()) :: U7 r) = true from h)
  simp only [Xh]
  cases hk : Xg p.1 k with
  | true => exact h2
  | false =>
   simp only [cond_false]
   exact Ho.2 ⟨fun q hq => h1 q ((Akf q h2).1 hq).1, Akg h2⟩
def gtS (a k : ByteArray) : Bool := !(bl a k || a.toList == k.toList)
def Ly (k v : ByteArray) : Bool → List Pr2 → List Pr2
 | d, [] => bif d then [] else [(k, v, ())]
 | d, p :: r => bif !d && gtS p.1 k then (k, v, ()) :: p :: Ly k v true r else bif p.1.toList == k.toList then Ly k v d r else p :: Ly k v d r
def Akh (c : Chg) (l : List Pr2) : List Pr2 := Ly c.1 c.2.1 c.2.2.1 l
theorem A1z {a k : ByteArray} (h : gtS a k = true) : bl k a = true := by
 unfold gtS at h
 rw [Bool.not_eq_true', Bool.or_eq_false_iff] at h
 cases q : bl k a with
 | true => rfl
 | false => exact absurd (Ap4 h.1 q) (fun e => by rw [e] at h; simp at h)
theorem Sb {k v : ByteArray} (x : Pr2) : ∀ (l : List Pr2) (d : Bool), x ∈ Ly k v d l ↔ (x ∈ l ∧ x.1 ≠ k) ∨ (d = false ∧ x = (k, v, ()))
 | [], d => by cases d <;> simp [Ly]
 | p :: r, d => by
  simp only [Ly]
  cases hg : !d && gtS p.1 k with
  | true =>
   obtain ⟨hd, hg⟩ := Cj hg
   have hd : d = false := by cases d <;> simp_all
   have hp : p.1 ≠ k := fun e => A1y (A1z hg) e.symm
   subst hd
   simp only [cond_true, List.mem_cons, Sb x r true]
   constructor
   ·rintro (q | q | q | q)
    ·exact .inr ⟨by simp, q⟩
    ·exact .inl ⟨.inl q, by rw [q]; exact hp⟩
    ·exact .inl ⟨.inr q.1, q.2⟩
    ·cases q.1
   ·rintro (⟨q | q, e⟩ | q)
    ·exact .inr (.inl q)
    ·exact .inr (.inr (.inl ⟨q, e⟩))
    ·exact .inl q.2
  | false =>
   simp only [cond_false]
   cases he : p.1.toList == k.toList with
   | true =>
    have he : p.1 = k := Ft.1 he
    simp only [cond_true, List.mem_cons, Sb x r d]
    constructor
    ·rintro (q | q)
     ·exact .inl ⟨.inr q.1, q.2⟩
     ·exact .inr q
    ·rintro (⟨q | q, e⟩ | q)
     ·exact absurd (by rw [q]; exact he) e
     ·exact .inl ⟨q, e⟩
     ·exact .inr q
   | false =>
    have he : p.1 ≠ k := fun q => by rw [show (p.1.toList == k.toList) = true from Ft.2 q] at he; cases he
    simp only [cond_false, List.mem_cons, Sb x r d]
    constructor
    ·rintro (q | q | q)
     ·exact .inl ⟨.inl q, by rw [q]; exact he⟩
     ·exact .inl ⟨.inr q.1, q.2⟩
     ·exact .inr q
    ·rintro (⟨q | q, e⟩ | q)
     ·exact .inl q
     ·exact .inr (.inl ⟨q, e⟩)
     ·exact .inr (.inr q)
theorem Zo {k v : ByteArray} : ∀ (l : List Pr2) (d : Bool), Srt l → Srt (Ly k v d l)
 | [], d, _ => by cases d <;> simp [Ly, Srt]
 | p :: r, d, h => by
  obtain ⟨h1, h2⟩ := List.pairwise_cons.1 h
  simp only [Ly]
  cases hg : !d && gtS p.1 k with
  | true =>
   obtain ⟨hd, hg⟩ := Cj hg
   have hkp := A1z hg
   simp only [cond_true]
   have hall : ∀ x ∈ Ly k v true r, x ∈ r := fun x hx => by
    rcases (Sb x r true).1 hx with q | q
    ·exact q.1
    ·cases q.1
   refine List.pairwise_cons.2 ⟨fun x hx => ?_, List.pairwise_cons.2 ⟨fun x hx => h1 x (hall x hx), Zo r true h2⟩⟩
   rcases List.mem_cons.1 hx with rfl | q
   ·exact hkp
   ·exact T9 hkp (h1 x (hall x q))
  | false =>
   simp only [cond_false]
   cases he : p.1.toList == k.toList with
   | true => exact Zo r d h2
   | false =>
    simp only [cond_false]
    refine List.pairwise_cons.2 ⟨fun x hx => ?_, Zo r d h2⟩
    rcases (Sb x r d).1 hx with q | ⟨hd, rfl⟩
    ·exact h1 x q.1
    ·subst hd
     have hn : gtS p.1 k = false := by simpa using hg
     unfold gtS at hn
     rw [he, Bool.or_false, Bool.not_eq_false'] at hn
     exact hn
def Af3 (c : Chg) (m : Mp) : Mp := bif c.2.2.1 then Xh c.1 m else Qf c.1 c.2.1 m
def Zp (m : Mp) (l : List Pr2) : Prop := Dr (U7 m) = true ∧ Srt l ∧ ∀ x, x ∈ U7 m ↔ x ∈ l
theorem Zp.step {m : Mp} {l : List Pr2} (h : Zp m l) (c : Chg) : Zp (Af3 c m) (Akh c l) := by
 obtain ⟨h1, h2, h3⟩ := h
 unfold Af3 Akh
 cases hc : c.2.2.1 with
 | true =>
  refine ⟨Akg h1, Zo _ _ h2, fun x => ?_⟩
  simp only [cond_true]
  rw [Akf x h1, Sb, h3]
  simp
 | false =>
  refine ⟨n5 h1, Zo _ _ h2, fun x => ?_⟩
  simp only [cond_false]
  rw [X6 x h1, Sb, h3]
  simp
theorem Zp.sort {m : Mp} {l ys : List Pr2} (h : Zp m l) (hn : Dr ys = true) (hy : ∀ x, x ∈ ys ↔ x ∈ U7 m) : L5 ys = l :=
 Ap5 (Adv hn) h.2.1 fun x => by rw [Zn, hy, h.2.2]
theorem Zp.len {m : Mp} {l : List Pr2} (h : Zp m l) : m.length = l.length := by
 have := congrArg List.length (h.sort h.1 fun _ => Iff.rfl)
 rw [Tz] at this
 simpa [U7] using this
def Mb (l : List Pr2) (b : List Chg) : List Pr2 := Eu (fun _ c l => Akh c l) 0 b l
def Mc (s : Stt) (b : List Chg) : Stt × Int :=
 bif !Bf s then (zSs, 1) else bif !Bd b then (zSs, 1) else bif decide ((Mb s.1 b).length > 100) then (zSs, 2) else ((Mb s.1 b, ()), 0)
theorem Zp.fold : ∀ {b : List Chg} {i : Nat} {m : Mp} {l : List Pr2}, Zp m l → Zp (Eu (fun _ c m => Af3 c m) i b m) (Eu (fun _ c l => Akh c l) i b l)
 | [], _, _, _, h => h
 | c :: b, i, m, l, h => Zp.fold (b := b) (i := i + 1) (h.step c)
def Aki (l : List Pr2) : Mp := Eu (fun _ p m => Qf p.1 p.2.1 m) 0 l []
theorem Awq : ∀ {l : List Pr2} {i : Nat} {m : Mp}, Dr (U7 m) = true → Srt l → (∀ p ∈ l, ∀ x ∈ U7 m, x.1 ≠ p.1) →
  Dr (U7 (Eu (fun _ p m => Qf p.1 p.2.1 m) i l m)) = true ∧ ∀ x, x ∈ U7 (Eu (fun _ p m => Qf p.1 p.2.1 m) i l m) ↔ x ∈ U7 m ∨ x ∈ l
 | [], _, m, h, _, _ => ⟨h, fun x => by simp [Eu]⟩
 | p :: r, i, m, h, hs, hk => by
  obtain ⟨s1, s2⟩ := List.pairwise_cons.1 hs
  obtain ⟨k1, k2⟩ := Awq (l := r) (i := i + 1) (m := Qf p.1 p.2.1 m) (n5 h) s2 (fun q hq x hx => by
   rcases (X6 x h).1 hx with ⟨a, _⟩ | rfl
   ·exact hk q (List.mem_cons_of_mem _ hq) x a
   ·exact A1y (s1 q hq))
  refine ⟨k1, fun x => (k2 x).trans ?_⟩
  rw [X6 x h, List.mem_cons]
  constructor
  ·rintro ((⟨a, _⟩ | a) | a)
   ·exact .inl a
   ·exact .inr (.inl a)
   ·exact .inr (.inr a)
  ·rintro (a | a | a)
   ·exact .inl (.inl ⟨a, hk p List.mem_cons_self x a⟩)
   ·exact .inl (.inr a)
   ·exact .inr a
theorem Zp.init {l : List Pr2} (h : Srt l) : Zp (Aki l) l := by
 obtain ⟨h1, h2⟩ := Awq (l := l) (i := 0) (m := []) rfl h (fun _ _ x hx => by cases hx)
 exact ⟨h1, h, fun x => (h2 x).trans (by simp [U7])⟩
theorem Azz : ∀ {l : List Pr2}, (∀ i, i + 1 < l.length → bl (l.getD i zP).1 (l.getD (i + 1) zP).1 = true) → Srt l
 | [], _ => List.Pairwise.nil
 | [p], _ => List.pairwise_singleton _ _
 | p :: q :: r, h => by
  have hr : Srt (q :: r) := Azz fun i hi => h (i + 1) (by simp only [List.length_cons] at hi ⊢; omega)
  have h0 : bl p.1 q.1 = true := h 0 (by simp)
  refine List.pairwise_cons.2 ⟨fun x hx => ?_, hr⟩
  rcases List.mem_cons.1 hx with rfl | hx
  ·exact h0
  ·exact T9 h0 ((List.pairwise_cons.1 hr).1 x hx)
theorem Aoo {s : Stt} (h : Bf s = true) : Srt s.1 := Azz fun i hi => by
 have := T4 (Cj h).2 (i + 1) hi
 unfold Ja at this
 obtain ⟨_, this⟩ := Cj this
 obtain ⟨_, this⟩ := Cj this
 simpa using this
theorem Akj {α : Type} : ∀ {l : List α} {i : Nat} {e : α}, l[i]? = some e → (e :: l.eraseIdx i).Perm l
 | [], i, e, h => by simp at h
 | a :: l, 0, e, h => by simp at h; subst h; exact List.Perm.refl _
 | a :: l, i + 1, e, h => by
  simp only [List.getElem?_cons_succ] at h
  simp only [List.eraseIdx_cons_succ]
  exact (List.Perm.swap a e _).trans ((Akj h).cons a)
theorem V1 : ∀ {l : List Pr2}, Dr l = true ↔ (l.map (·.1)).Nodup
 | [] => by simp [Dr]
 | p :: r => by
  rw [Ho, List.map_cons, List.nodup_cons, V1 (l := r)]
  constructor
  ·rintro ⟨h1, h2⟩
   exact ⟨fun q => by obtain ⟨x, hx, e⟩ := List.mem_map.1 q; exact h1 x hx e, h2⟩
  ·rintro ⟨h1, h2⟩
   exact ⟨fun q hq e => h1 (List.mem_map.2 ⟨q, hq, e⟩), h2⟩
theorem X7 {l m : List Pr2} (h : l.Perm m) (hn : Dr l = true) : Dr m = true := V1.2 (((h.map (·.1)).nodup_iff).1 (V1.1 hn))
theorem Az0 {R : Type} (M : Mp) (l0 : List Pr2) (hM : Zp M l0) (hlen : M.length ≤ 100) {D : Type} (mk : Mp → Option (ByteArray × ByteArray) → List Pr2 → D) {left : D → Mp} {stp : D → ByteArray × ByteArray → Mp → Option D} {fin : D → Option R} {res : R}
  (hl : ∀ l c r, left (mk l c r) = l) (hs : ∀ l c r e l', r.length < 1000 → stp (mk l c r) e l' = some (mk l' (some e) (r ++ [(e.1, e.2, ())])))
  (hf : ∀ c r, Dr r = true → r.length ≤ 1000 → L5 r = l0 → fin (mk [] c r) = some res) :
  ∀ (n : Nat) (l : Mp) (c : Option (ByteArray × ByteArray)) (r : List Pr2), l.length = n → (r ++ U7 l).Perm (U7 M) → Agq left stp fin (n + 1) (mk l c r) res
 | 0, l, c, r, hn, hp => by
  have : l = [] := List.length_eq_zero_iff.1 hn
  subst this
  have hp' : r.Perm (U7 M) := by simpa [U7] using hp
  have hl2 := hp'.length_eq
  refine ⟨fun _ => hf c r (X7 hp'.symm hM.1) ?_ (hM.sort (X7 hp'.symm hM.1) fun x => hp'.mem_iff), fun i e he => ?_⟩
  ·rw [hl2]; simp only [U7, List.length_map]; omega
  ·rw [hl] at he; simp at he
 | n + 1, l, c, r, hn, hp => by
  refine ⟨fun q => ?_, fun i e he => ?_⟩
  ·rw [hl] at q; rw [q] at hn; cases hn
  ·rw [hl] at he
   have hq := Akj he
   have hr : r.length < 1000 := by
    have := hp.length_eq
    simp only [U7, List.length_append, List.length_map] at this
    omega
   refine ⟨mk (l.eraseIdx i) (some e) (r ++ [(e.1, e.2, ())]), by rw [hs l c r e _ hr, hl], ?_⟩
   refine Az0 M l0 hM hlen mk hl hs hf n (l.eraseIdx i) (some e) (r ++ [(e.1, e.2, ())]) ?_ ?_
   ·have := hq.length_eq
    simp only [List.length_cons] at this
    omega
   ·refine List.Perm.trans ?_ hp
    rw [List.append_assoc]
    exact List.Perm.append_left r (hq.map fun p : ByteArray × ByteArray => ((p.1, p.2, ()) : Pr2))
def Qq (k v : ByteArray) (p : Pr2) (s : Bool × List Pr2) : Bool × List Pr2 :=
 bif !s.1 && gtS p.1 k then (true, bif !(p.1.toList == k.toList) then s.2 ++ [(k, v, ())] ++ [(p.1, p.2.1, ())] else s.2 ++ [(k, v, ())])
 else (s.1, bif !(p.1.toList == k.toList) then s.2 ++ [(p.1, p.2.1, ())] else s.2)
def As3 (k v : ByteArray) (s : Bool × List Pr2) : List Pr2 := bif s.1 then s.2 else s.2 ++ [(k, v, ())]
theorem Awr (k v : ByteArray) : ∀ (l : List Pr2) (i : Nat) (s : Bool × List Pr2), As3 k v (Eu (fun _ p s => Qq k v p s) i l s) = s.2 ++ Ly k v s.1 l
 | [], i, s => by
  show As3 k v s = _
  unfold As3 Ly
  cases s.1 <;> simp
 | p :: r, i, s => by
  show As3 k v (Eu (fun _ p s => Qq k v p s) (i + 1) r (Qq k v p s)) = _
  rw [Awr k v r (i + 1)]
  unfold Qq
  simp only [Ly]
  cases hg : !s.1 && gtS p.1 k with
  | true =>
   obtain ⟨_, h2⟩ := Cj hg
   have he : (p.1.toList == k.toList) = false := by
    unfold gtS at h2
    rw [Bool.not_eq_true', Bool.or_eq_false_iff] at h2
    exact h2.2
   rw [he]
   simp only [cond_true, Bool.not_false]
   rw [List.append_assoc, List.append_assoc]
   rfl
  | false =>
   simp only [cond_false]
   cases he : p.1.toList == k.toList with
   | true => rfl
   | false =>
    simp only [cond_true, cond_false, Bool.not_false]
    rw [List.append_assoc]
    rfl
theorem Akk (k v : ByteArray) (p : Pr2) (s : Bool × List Pr2) : (Qq k v p s).2.length ≤ s.2.length + 2 := by
 unfold Qq
 cases !s.1 && gtS p.1 k <;> cases !(p.1.toList == k.toList) <;> simp
theorem A1b (c : Chg) (l : List Pr2) : (Akh c l).length ≤ l.length + 1 := by
 unfold Akh
 generalize c.2.2.1 = d
 induction l generalizing d with
 | nil => cases d <;> simp [Ly]
 | cons p r ih =>
  simp only [Ly]
  have ht : ∀ r : List Pr2, (Ly c.1 c.2.1 true r).length ≤ r.length := fun r => by
   induction r with
   | nil => simp [Ly]
   | cons q r ih2 =>
    simp only [Ly, Bool.not_true, Bool.false_and, cond_false]
    cases q.1.toList == c.1.toList with
    | true => simp only [cond_true, List.length_cons]; omega
    | false => simp only [cond_false, List.length_cons]; omega
  cases !d && gtS p.1 c.1 with
  | true => simp only [cond_true, List.length_cons]; have := ht r; omega
  | false =>
   simp only [cond_false]
   cases p.1.toList == c.1.toList with
   | true => simp only [cond_true, List.length_cons]; have := ih d; omega
   | false => simp only [cond_false, List.length_cons]; have := ih d; omega
theorem Af4 {q : Pr2 → Prop} : ∀ {b : List Chg} {i : Nat} {l : List Pr2}, (∀ x ∈ l, q x) → (∀ c ∈ b, q (c.1, c.2.1, ())) → ∀ x ∈ Eu (fun _ c l => Akh c l) i b l, q x
 | [], _, _, h, _ => h
 | c :: b, i, l, h, hb => Af4 (b := b) (i := i + 1) (fun x hx => by
  rcases (Sb x l c.2.2.1).1 hx with q1 | q1
  ·exact h x q1.1
  ·rw [q1.2]; exact hb c List.mem_cons_self) (fun c' hc' => hb c' (List.mem_cons_of_mem _ hc'))
def A2q (x : Pr2) : Prop := Lw x.1 = true ∧ x.2.1.size ≤ 100
theorem Az1 {l : List Pr2} (hl : l.length ≤ 100) (hm : ∀ x ∈ l, A2q x) (hs : Srt l) : Bf (l, ()) = true := by
 unfold Bf
 rw [decide_eq_true (show (l, ()).1.length ≤ 100 from hl), Bool.true_and]
 refine List.all_eq_true.2 fun i hi => ?_
 have hi : i < l.length := by simpa [List.mem_range'] using hi
 have hx : l.getD i zP = l[i] := by simp [hi]
 obtain ⟨h1, h2⟩ := hm l[i] (List.getElem_mem hi)
 show Ja l i = true
 unfold Ja
 rw [hx, h1, decide_eq_true h2, Bool.true_and, Bool.true_and]
 cases i with
 | zero => rfl
 | succ i =>
  have hx2 : l.getD i zP = l[i] := by simp [show i < l.length by omega]
  have := (List.pairwise_iff_getElem.1 hs) i (i + 1) (by omega) hi (Nat.lt_succ_self i)
  show ((i + 1 == 0) || bl (l.getD (i + 1 - 1) zP).1 l[i + 1].1) = true
  rw [show i + 1 - 1 = i from rfl, hx2, this, Bool.or_true]
theorem Ax1 {s : Stt} (h : Bf s = true) : ∀ x ∈ s.1, A2q x := fun x hx => by
 obtain ⟨i, hi, rfl⟩ := Xz zP hx
 have := T4 (Cj h).2 i hi
 unfold Ja at this
 obtain ⟨h1, h2⟩ := Cj this
 exact ⟨h1, of_decide_eq_true (Cj h2).1⟩
theorem A1c {b : List Chg} (h : Bd b = true) : ∀ c ∈ b, A2q (c.1, c.2.1, ()) := fun c hc => by
 obtain ⟨i, hi, rfl⟩ := Xz zC hc
 have := (Oi h).2 i hi
 unfold L8 at this
 obtain ⟨h1, h2⟩ := Cj this
 exact ⟨h1, of_decide_eq_true (Cj h2).1⟩
theorem As4 : ∀ {b : List Chg} {i : Nat} {l : List Pr2}, Srt l → Srt (Eu (fun _ c l => Akh c l) i b l)
 | [], _, _, h => h
 | c :: b, i, l, h => As4 (b := b) (i := i + 1) (Zo _ _ h)
theorem As5 (s : Stt) (b : List Chg) : Bf (Mc s b).1 = true := by
 unfold Mc
 cases hv : Bf s with
 | false => rfl
 | true =>
  cases hb : Bd b with
  | false => rfl
  | true =>
   simp only [Bool.not_true, cond_false]
   by_cases q : (Mb s.1 b).length > 100
   ·rw [decide_eq_true q]; rfl
   ·rw [decide_eq_false q]
    exact Az1 (by omega) (Af4 (Ax1 hv) (A1c hb)) (As4 (Aoo hv))
end Go.Proofs.YteaoabdlcefkhaaGreat.V

