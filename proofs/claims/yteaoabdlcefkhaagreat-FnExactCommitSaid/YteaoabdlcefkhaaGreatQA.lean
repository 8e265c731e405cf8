/- Pairs in the order of their keys. No condition. -/
import Derived.Test.YteaoabdlcefkhaaGreatQS
namespace Go.Proofs.YteaoabdlcefkhaaGreat.V
open Go Go.Proofs.YteaoabdlcefkhaaGreat.R
set_option linter.unusedVariables false
set_option linter.unusedSimpArgs false
theorem Acp : ∀ x : List UInt8, Op.bytesLess x x = false
 | [] => rfl
 | a :: x => by simp [Op.bytesLess, Acp x]
theorem Agl : ∀ {x y z : List UInt8}, Op.bytesLess x y = true → Op.bytesLess y z = true → Op.bytesLess x z = true
 | [], [], _, h, _ => by simp [Op.bytesLess] at h
 | [], _ :: _, [], _, k => by simp [Op.bytesLess] at k
 | [], _ :: _, _ :: _, _, _ => rfl
 | _ :: _, [], _, h, _ => by simp [Op.bytesLess] at h
 | _ :: _, _ :: _, [], _, k => by simp [Op.bytesLess] at k
 | a :: x, b :: y, c :: z, h, k => by
  simp only [Op.bytesLess, Bool.or_eq_true, decide_eq_true_eq, Bool.and_eq_true, beq_iff_eq] at h k ⊢
  rcases h with h | ⟨rfl, h⟩
  ·rcases k with k | ⟨rfl, k⟩
   ·exact .inl (UInt8.lt_trans h k)
   ·exact .inl h
  ·rcases k with k | ⟨rfl, k⟩
   ·exact .inl k
   ·exact .inr ⟨rfl, Agl h k⟩
theorem Ane : ∀ {x y : List UInt8}, Op.bytesLess x y = false → Op.bytesLess y x = false → x = y
 | [], [], _, _ => rfl
 | [], _ :: _, h, _ => by simp [Op.bytesLess] at h
 | _ :: _, [], _, k => by simp [Op.bytesLess] at k
 | a :: x, b :: y, h, k => by
  simp only [Op.bytesLess, Bool.or_eq_false_iff, decide_eq_false_iff_not, Bool.and_eq_false_iff] at h k
  have hab : a = b := by
   apply UInt8.le_antisymm
   ·exact UInt8.not_lt.1 k.1
   ·exact UInt8.not_lt.1 h.1
  subst hab
  have h2 : Op.bytesLess x y = false := by rcases h.2 with q | q <;> simp_all
  have k2 : Op.bytesLess y x = false := by rcases k.2 with q | q <;> simp_all
  rw [Ane h2 k2]
theorem O7 (a : ByteArray) : bl a a = false := Acp _
theorem O8 {a b c : ByteArray} (h : bl a b = true) (k : bl b c = true) : bl a c = true := Agl h k
theorem Ahy {a b : ByteArray} (h : bl a b = false) (k : bl b a = false) : a = b := D0.1 (beq_iff_eq.2 (Ane h k))
theorem Asb {a b : ByteArray} (h : bl a b = true) : a ≠ b := fun q => by rw [q, O7] at h; cases h
def Srt (l : List Pr2) : Prop := l.Pairwise fun a b => bl a.1 b.1 = true
theorem Ahz : ∀ {l m : List Pr2}, Srt l → Srt m → (∀ x, x ∈ l ↔ x ∈ m) → l = m
 | [], [], _, _, _ => rfl
 | [], b :: m, _, _, h => by have := (h b).2 List.mem_cons_self; cases this
 | a :: l, [], _, _, h => by have := (h a).1 List.mem_cons_self; cases this
 | a :: l, b :: m, hl, hm, h => by
  obtain ⟨l1, l2⟩ := List.pairwise_cons.1 hl
  obtain ⟨m1, m2⟩ := List.pairwise_cons.1 hm
  have hab : a = b := by
   rcases List.mem_cons.1 ((h a).1 List.mem_cons_self) with q | q
   ·exact q
   ·rcases List.mem_cons.1 ((h b).2 List.mem_cons_self) with q2 | q2
    ·exact q2.symm
    ·have := O8 (m1 a q) (l1 b q2)
     rw [O7] at this
     cases this
  subst hab
  rw [Ahz l2 m2 fun x => ⟨fun q => ?_, fun q => ?_⟩]
  ·rcases List.mem_cons.1 ((h x).1 (List.mem_cons_of_mem _ q)) with rfl | q2
   ·have := l1 x q; rw [O7] at this; cases this
   ·exact q2
  ·rcases List.mem_cons.1 ((h x).2 (List.mem_cons_of_mem _ q)) with rfl | q2
   ·have := m1 x q; rw [O7] at this; cases this
   ·exact q2
theorem Acq (p x : Pr2) : ∀ l : List Pr2, x ∈ m6 p l ↔ x = p ∨ x ∈ l
 | [] => by simp [m6]
 | q :: r => by
  simp only [m6]
  cases ltK q p with
  | true => simp only [cond_true, List.mem_cons, Acq p x r]; constructor <;> (rintro (h | h | h) <;> simp [h])
  | false => simp only [cond_false, List.mem_cons]
theorem Tq (x : Pr2) : ∀ l : List Pr2, x ∈ I2 l ↔ x ∈ l
 | [] => Iff.rfl
 | p :: r => by
  show x ∈ m6 p (I2 r) ↔ _
  rw [Acq, Tq x r, List.mem_cons]
theorem Aj6 {p : Pr2} : ∀ {l : List Pr2}, Srt l → (∀ q ∈ l, q.1 ≠ p.1) → Srt (m6 p l)
 | [], _, _ => List.pairwise_singleton _ _
 | q :: r, hl, hp => by
  obtain ⟨l1, l2⟩ := List.pairwise_cons.1 hl
  simp only [m6]
  cases hq : ltK q p with
  | true =>
   refine List.pairwise_cons.2 ⟨fun x hx => ?_, Aj6 l2 fun y hy => hp y (List.mem_cons_of_mem _ hy)⟩
   rcases (Acq p x r).1 hx with rfl | h
   ·exact hq
   ·exact l1 x h
  | false =>
   have hpq : bl p.1 q.1 = true := by
    cases h : bl p.1 q.1 with
    | true => rfl
    | false => exact absurd (Ahy hq h) (hp q List.mem_cons_self)
   refine List.pairwise_cons.2 ⟨fun x hx => ?_, hl⟩
   rcases List.mem_cons.1 hx with rfl | h
   ·exact hpq
   ·exact O8 hpq (l1 x h)
theorem Ff {p : Pr2} {r : List Pr2} : Cp (p :: r) = true ↔ (∀ q ∈ r, q.1 ≠ p.1) ∧ Cp r = true := by
 simp only [Cp, Bool.and_eq_true, Bool.not_eq_true', List.any_eq_false]
 constructor
 ·rintro ⟨h1, h2⟩
  exact ⟨fun q hq e => h1 q hq (by rw [e]; simp), h2⟩
 ·rintro ⟨h1, h2⟩
  exact ⟨fun q hq e => h1 q hq (D0.1 e), h2⟩
theorem Zn : ∀ {l : List Pr2}, Cp l = true → Srt (I2 l)
 | [], _ => List.Pairwise.nil
 | p :: r, h => by
  obtain ⟨h1, h2⟩ := Ff.1 h
  exact Aj6 (Zn h2) fun q hq => h1 q ((Tq q r).1 hq)
abbrev Mp := List (ByteArray × ByteArray)
def Px (m : Mp) : List Pr2 := m.map fun p => (p.1, p.2, ())
theorem Sg {k v : ByteArray} (x : Pr2) : ∀ {m : Mp}, Cp (Px m) = true → (x ∈ Px (L9 k v m) ↔ (x ∈ Px m ∧ x.1 ≠ k) ∨ x = (k, v, ()))
 | [], _ => by simp [L9, Px]
 | p :: r, h => by
  obtain ⟨h1, h2⟩ := Ff.1 (show Cp ((p.1, p.2, ()) :: Px r) = true from h)
  simp only [L9]
  cases hk : Ru p.1 k with
  | true =>
   have hk := D0.1 hk
   simp only [cond_true]
   show x ∈ (k, v, ()) :: Px r ↔ (x ∈ (p.1, p.2, ()) :: Px r ∧ _) ∨ _
   rw [List.mem_cons, List.mem_cons]
   constructor
   ·rintro (rfl | q)
    ·exact .inr rfl
    ·exact .inl ⟨.inr q, fun e => h1 x q (by rw [e, hk])⟩
   ·rintro (⟨q | q, e⟩ | q)
    ·subst q
     exact absurd hk e
    ·exact .inr q
    ·exact .inl q
  | false =>
   have hk : p.1 ≠ k := fun q => by rw [D0.2 q] at hk; cases hk
   simp only [cond_false]
   show x ∈ (p.1, p.2, ()) :: Px (L9 k v r) ↔ (x ∈ (p.1, p.2, ()) :: Px r ∧ _) ∨ _
   rw [List.mem_cons, List.mem_cons, Sg x h2]
   constructor
   ·rintro (rfl | ⟨q, e⟩ | q)
    ·exact .inl ⟨.inl rfl, hk⟩
    ·exact .inl ⟨.inr q, e⟩
    ·exact .inr q
   ·rintro (⟨q | q, e⟩ | q)
    ·exact .inl q
    ·exact .inr (.inl ⟨q, e⟩)
    ·exact .inr (.inr q)
theorem Ve {k v : ByteArray} : ∀ {m : Mp}, Cp (Px m) = true → Cp (Px (L9 k v m)) = true
 | [], _ => rfl
 | p :: r, h => by
  obtain ⟨h1, h2⟩ := Ff.1 (show Cp ((p.1, p.2, ()) :: Px r) = true from h)
  simp only [L9]
  cases hk : Ru p.1 k with
  | true =>
   have hk := D0.1 hk
   simp only [cond_true]
   exact Ff.2 ⟨fun q hq => by rw [← hk]; exact h1 q hq, h2⟩
  | false =>
   have hk : p.1 ≠ k := fun q => by rw [D0.2 q] at hk; cases hk
   simp only [cond_false]
   refine Ff.2 ⟨fun q hq => ?_, Ve h2⟩
   rcases (Sg q h2).1 hq with ⟨a, _⟩ | rfl
   ·exact h1 q a
   ·exact fun e => hk e.symm
theorem Acr {k : ByteArray} (x : Pr2) : ∀ {m : Mp}, Cp (Px m) = true → (x ∈ Px (Rv k m) ↔ x ∈ Px m ∧ x.1 ≠ k)
 | [], _ => by simp [Rv, Px]
 | p :: r, h => by
  obtain ⟨h1, h2⟩ := Ff.1 (show Cp ((p.1, p.2, ()) :: Px r) = true from h)
  simp only [Rv]
  cases hk : Ru p.1 k with
  | true =>
   have hk := D0.1 hk
   simp only [cond_true]
   show x ∈ Px r ↔ x ∈ (p.1, p.2, ()) :: Px r ∧ _
   rw [List.mem_cons]
   constructor
   ·intro q
    exact ⟨.inr q, fun e => h1 x q (by rw [e, hk])⟩
   ·rintro ⟨q | q, e⟩
    ·subst q
     exact absurd hk e
    ·exact q
  | false =>
   have hk : p.1 ≠ k := fun q => by rw [D0.2 q] at hk; cases hk
   simp only [cond_false]
   show x ∈ (p.1, p.2, ()) :: Px (Rv k r) ↔ x ∈ (p.1, p.2, ()) :: Px r ∧ _
   rw [List.mem_cons, List.mem_cons, Acr x h2]
   constructor
   ·rintro (rfl | ⟨q, e⟩)
    ·exact ⟨.inl rfl, hk⟩
    ·exact ⟨.inr q, e⟩
   ·rintro ⟨q | q, e⟩
    ·exact .inl q
    ·exact .inr ⟨q, e⟩
theorem Acs {k : ByteArray} : ∀ {m : Mp}, Cp (Px m) = true → Cp (Px (Rv k m)) = true
 | [], _ => rfl
 | p :: r, h => by
  obtain ⟨h1, h2⟩ := Ff.1 (show Cp ((p.1, p.2, ()) :: Px r) = true from h)
  simp only [Rv]
  cases hk : Ru p.1 k with
  | true => exact h2
  | false =>
   simp only [cond_false]
   exact Ff.2 ⟨fun q hq => h1 q ((Acr q h2).1 hq).1, Acs h2⟩
def gtS (a k : ByteArray) : Bool := !(bl a k || a.toList == k.toList)
def Ix (k v : ByteArray) : Bool → List Pr2 → List Pr2
 | d, [] => bif d then [] else [(k, v, ())]
 | d, p :: r => bif !d && gtS p.1 k then (k, v, ()) :: p :: Ix k v true r else bif p.1.toList == k.toList then Ix k v d r else p :: Ix k v d r
def Acu (c : Chg) (l : List Pr2) : List Pr2 := Ix c.1 c.2.1 c.2.2.1 l
theorem Asc {a k : ByteArray} (h : gtS a k = true) : bl k a = true := by
 unfold gtS at h
 rw [Bool.not_eq_true', Bool.or_eq_false_iff] at h
 cases q : bl k a with
 | true => rfl
 | false => exact absurd (Ahy h.1 q) (fun e => by rw [e] at h; simp at h)
theorem Nl {k v : ByteArray} (x : Pr2) : ∀ (l : List Pr2) (d : Bool), x ∈ Ix k v d l ↔ (x ∈ l ∧ x.1 ≠ k) ∨ (d = false ∧ x = (k, v, ()))
 | [], d => by cases d <;> simp [Ix]
 | p :: r, d => by
  simp only [Ix]
  cases hg : !d && gtS p.1 k with
  | true =>
   obtain ⟨hd, hg⟩ := Cq hg
   have hd : d = false := by cases d <;> simp_all
   have hp : p.1 ≠ k := fun e => Asb (Asc hg) e.symm
   subst hd
   simp only [cond_true, List.mem_cons, Nl x r true]
   constructor
   ·rintro (q | q | q | q)
    ·exact .inr ⟨by simp, q⟩
    ·exact .inl ⟨.inl q, by rw [q]; exact hp⟩
    ·exact .inl ⟨.inr q.1, q.2⟩
    ·cases q.1
   ·rintro (⟨q | q, e⟩ | q)
    ·exact .inr (.inl q)
    ·exact .inr (.inr (.inl ⟨q, e⟩))
    ·exact .inl q.2
  | false =>
   simp only [cond_false]
   cases he : p.1.toList == k.toList with
   | true =>
    have he : p.1 = k := D0.1 he
    simp only [cond_true, List.mem_cons, Nl x r d]
    constructor
    ·rintro (q | q)
     ·exact .inl ⟨.inr q.1, q.2⟩
     ·exact .inr q
    ·rintro (⟨q | q, e⟩ | q)
     ·exact absurd (by rw [q]; exact he) e
     ·exact .inl ⟨q, e⟩
     ·exact .inr q
   | false =>
    have he : p.1 ≠ k := fun q => by rw [show (p.1.toList == k.toList) = true from D0.2 q] at he; cases he
    simp only [cond_false, List.mem_cons, Nl x r d]
    constructor
    ·rintro (q | q | q)
     ·exact .inl ⟨.inl q, by rw [q]; exact he⟩
     ·exact .inl ⟨.inr q.1, q.2⟩
     ·exact .inr q
    ·rintro (⟨q | q, e⟩ | q)
     ·exact .inl q
     ·exact .inr (.inl ⟨q, e⟩)
     ·exact .inr (.inr q)
theorem Tr {k v : ByteArray} : ∀ (l : List Pr2) (d : Bool), Srt l → Srt (Ix k v d l)
 | [], d, _ => by cases d <;> simp [Ix, Srt]
 | p :: r, d, h => by
  obtain ⟨h1, h2⟩ := List.pairwise_cons.1 h
  simp only [Ix]
  cases hg : !d && gtS p.1 k with
  | true =>
   obtain ⟨hd, hg⟩ := Cq hg
   have hkp := Asc hg
   simp only [cond_true]
   have hall : ∀ x ∈ Ix k v true r, x ∈ r := fun x hx => by
    rcases (Nl x r true).1 hx with q | q
    ·exact q.1
    ·cases q.1
   refine List.pairwise_cons.2 ⟨fun x hx => ?_, List.pairwise_cons.2 ⟨fun x hx => h1 x (hall x hx), Tr r true h2⟩⟩
   rcases List.mem_cons.1 hx with rfl | q
   ·exact hkp
   ·exact O8 hkp (h1 x (hall x q))
  | false =>
   simp only [cond_false]
   cases he : p.1.toList == k.toList with
   | true => exact Tr r d h2
   | false =>
    simp only [cond_false]
    refine List.pairwise_cons.2 ⟨fun x hx => ?_, Tr r d h2⟩
    rcases (Nl x r d).1 hx with q | ⟨hd, rfl⟩
    ·exact h1 x q.1
    ·subst hd
     have hn : gtS p.1 k = false := by simpa using hg
     unfold gtS at hn
     rw [he, Bool.or_false, Bool.not_eq_false'] at hn
     exact hn
def k7 (c : Chg) (m : Mp) : Mp := bif c.2.2.1 then Rv c.1 m else L9 c.1 c.2.1 m
def Tv (m : Mp) (l : List Pr2) : Prop := Cp (Px m) = true ∧ Srt l ∧ ∀ x, x ∈ Px m ↔ x ∈ l
theorem Tv.step {m : Mp} {l : List Pr2} (h : Tv m l) (c : Chg) : Tv (k7 c m) (Acu c l) := by
 obtain ⟨h1, h2, h3⟩ := h
 unfold k7 Acu
 cases hc : c.2.2.1 with
 | true =>
  refine ⟨Acs h1, Tr _ _ h2, fun x => ?_⟩
  simp only [cond_true]
  rw [Acr x h1, Nl, h3]
  simp
 | false =>
  refine ⟨Ve h1, Tr _ _ h2, fun x => ?_⟩
  simp only [cond_false]
  rw [Sg x h1, Nl, h3]
  simp
theorem Tv.sort {m : Mp} {l ys : List Pr2} (h : Tv m l) (hn : Cp ys = true) (hy : ∀ x, x ∈ ys ↔ x ∈ Px m) : I2 ys = l :=
 Ahz (Zn hn) h.2.1 fun x => by rw [Tq, hy, h.2.2]
theorem Tv.len {m : Mp} {l : List Pr2} (h : Tv m l) : m.length = l.length := by
 have := congrArg List.length (h.sort h.1 fun _ => Iff.rfl)
 rw [O2] at this
 simpa [Px] using this
def H8 (l : List Pr2) (b : List Chg) : List Pr2 := Fw (fun _ c l => Acu c l) 0 b l
def D7 (s : Stt) (b : List Chg) : Stt × Int :=
 bif !A3 s then (zSs, 1) else bif !A4 b then (zSs, 1) else bif decide ((H8 s.1 b).length > 100) then (zSs, 2) else ((H8 s.1 b, ()), 0)
theorem Tv.fold : ∀ {b : List Chg} {i : Nat} {m : Mp} {l : List Pr2}, Tv m l → Tv (Fw (fun _ c m => k7 c m) i b m) (Fw (fun _ c l => Acu c l) i b l)
 | [], _, _, _, h => h
 | c :: b, i, m, l, h => Tv.fold (b := b) (i := i + 1) (h.step c)
def Acv (l : List Pr2) : Mp := Fw (fun _ p m => L9 p.1 p.2.1 m) 0 l []
theorem Anf : ∀ {l : List Pr2} {i : Nat} {m : Mp}, Cp (Px m) = true → Srt l → (∀ p ∈ l, ∀ x ∈ Px m, x.1 ≠ p.1) →
  Cp (Px (Fw (fun _ p m => L9 p.1 p.2.1 m) i l m)) = true ∧ ∀ x, x ∈ Px (Fw (fun _ p m => L9 p.1 p.2.1 m) i l m) ↔ x ∈ Px m ∨ x ∈ l
 | [], _, m, h, _, _ => ⟨h, fun x => by simp [Fw]⟩
 | p :: r, i, m, h, hs, hk => by
  obtain ⟨s1, s2⟩ := List.pairwise_cons.1 hs
  obtain ⟨k1, k2⟩ := Anf (l := r) (i := i + 1) (m := L9 p.1 p.2.1 m) (Ve h) s2 (fun q hq x hx => by
   rcases (Sg x h).1 hx with ⟨a, _⟩ | rfl
   ·exact hk q (List.mem_cons_of_mem _ hq) x a
   ·exact Asb (s1 q hq))
  refine ⟨k1, fun x => (k2 x).trans ?_⟩
  rw [Sg x h, List.mem_cons]
  constructor
  ·rintro ((⟨a, _⟩ | a) | a)
   ·exact .inl a
   ·exact .inr (.inl a)
   ·exact .inr (.inr a)
  ·rintro (a | a | a)
   ·exact .inl (.inl ⟨a, hk p List.mem_cons_self x a⟩)
   ·exact .inl (.inr a)
   ·exact .inr a
theorem Tv.init {l : List Pr2} (h : Srt l) : Tv (Acv l) l := by
 obtain ⟨h1, h2⟩ := Anf (l := l) (i := 0) (m := []) rfl h (fun _ _ x hx => by cases hx)
 exact ⟨h1, h, fun x => (h2 x).trans (by simp [Px])⟩
theorem Aqj : ∀ {l : List Pr2}, (∀ i, i + 1 < l.length → bl (l.getD i zP).1 (l.getD (i + 1) zP).1 = true) → Srt l
 | [], _ => List.Pairwise.nil
 | [p], _ => List.pairwise_singleton _ _
 | p :: q :: r, h => by
  have hr : Srt (q :: r) := Aqj fun i hi => h (i + 1) (by simp only [List.length_cons] at hi ⊢; omega)
  have h0 : bl p.1 q.1 = true := h 0 (by simp)
  refine List.pairwise_cons.2 ⟨fun x hx => ?_, hr⟩
  rcases List.mem_cons.1 hx with rfl | hx
  ·exact h0
  ·exact O8 h0 ((List.pairwise_cons.1 hr).1 x hx)
theorem Agm {s : Stt} (h : A3 s = true) : Srt s.1 := Aqj fun i hi => by
 have := Zg (Cq h).2 (i + 1) hi
 unfold Gj at this
 obtain ⟨_, this⟩ := Cq this
 obtain ⟨_, this⟩ := Cq this
 simpa using this
theorem Acw {α : Type} : ∀ {l : List α} {i : Nat} {e : α}, l[i]? = some e → (e :: l.eraseIdx i).Perm l
 | [], i, e, h => by simp at h
 | a :: l, 0, e, h => by simp at h; subst h; exact List.Perm.refl _
 | a :: l, i + 1, e, h => by
  simp only [List.getElem?_cons_succ] at h
  simp only [List.eraseIdx_cons_succ]
  exact (List.Perm.swap a e _).trans ((Acw h).cons a)
theorem Qo : ∀ {l : List Pr2}, Cp l = true ↔ (l.map (·.1)).Nodup
 | [] => by simp [Cp]
 | p :: r => by
  rw [Ff, List.map_cons, List.nodup_cons, Qo (l := r)]
  constructor
  ·rintro ⟨h1, h2⟩
   exact ⟨fun q => by obtain ⟨x, hx, e⟩ := List.mem_map.1 q; exact h1 x hx e, h2⟩
  ·rintro ⟨h1, h2⟩
   exact ⟨fun q hq e => h1 (List.mem_map.2 ⟨q, hq, e⟩), h2⟩
theorem Sh {l m : List Pr2} (h : l.Perm m) (hn : Cp l = true) : Cp m = true := Qo.2 (((h.map (·.1)).nodup_iff).1 (Qo.1 hn))
theorem Aqk {R : Type} (M : Mp) (l0 : List Pr2) (hM : Tv M l0) (hlen : M.length ≤ 100) {D : Type} (mk : Mp → Option (ByteArray × ByteArray) → List Pr2 → D) {left : D → Mp} {stp : D → ByteArray × ByteArray → Mp → Option D} {fin : D → Option R} {res : R}
  (hl : ∀ l c r, left (mk l c r) = l) (hs : ∀ l c r e l', r.length < 1000 → stp (mk l c r) e l' = some (mk l' (some e) (r ++ [(e.1, e.2, ())])))
  (hf : ∀ c r, Cp r = true → r.length ≤ 1000 → I2 r = l0 → fin (mk [] c r) = some res) :
  ∀ (n : Nat) (l : Mp) (c : Option (ByteArray × ByteArray)) (r : List Pr2), l.length = n → (r ++ Px l).Perm (Px M) → m8 left stp fin (n + 1) (mk l c r) res
 | 0, l, c, r, hn, hp => by
  have : l = [] := List.length_eq_zero_iff.1 hn
  subst this
  have hp' : r.Perm (Px M) := by simpa [Px] using hp
  have hl2 := hp'.length_eq
  refine ⟨fun _ => hf c r (Sh hp'.symm hM.1) ?_ (hM.sort (Sh hp'.symm hM.1) fun x => hp'.mem_iff), fun i e he => ?_⟩
  ·rw [hl2]; simp only [Px, List.length_map]; omega
  ·rw [hl] at he; simp at he
 | n + 1, l, c, r, hn, hp => by
  refine ⟨fun q => ?_, fun i e he => ?_⟩
  ·rw [hl] at q; rw [q] at hn; cases hn
  ·rw [hl] at he
   have hq := Acw he
   have hr : r.length < 1000 := by
    have := hp.length_eq
    simp only [Px, List.length_append, List.length_map] at this
    omega
   refine ⟨mk (l.eraseIdx i) (some e) (r ++ [(e.1, e.2, ())]), by rw [hs l c r e _ hr, hl], ?_⟩
   refine Aqk M l0 hM hlen mk hl hs hf n (l.eraseIdx i) (some e) (r ++ [(e.1, e.2, ())]) ?_ ?_
   ·have := hq.length_eq
    simp only [List.length_cons] at this
    omega
   ·refine List.Perm.trans ?_ hp
    rw [List.append_assoc]
    exact List.Perm.append_left r (hq.map fun p : ByteArray × ByteArray => ((p.1, p.2, ()) : Pr2))
def Mh (k v : ByteArray) (p : Pr2) (s : Bool × List Pr2) : Bool × List Pr2 :=
 bif !s.1 && gtS p.1 k then (true, bif !(p.1.toList == k.toList) then s.2 ++ [(k, v, ())] ++ [(p.1, p.2.1, ())] else s.2 ++ [(k, v, ())])
 else (s.1, bif !(p.1.toList == k.toList) then s.2 ++ [(p.1, p.2.1, ())] else s.2)
def Aj7 (k v : ByteArray) (s : Bool × List Pr2) : List Pr2 := bif s.1 then s.2 else s.2 ++ [(k, v, ())]
theorem Ang (k v : ByteArray) : ∀ (l : List Pr2) (i : Nat) (s : Bool × List Pr2), Aj7 k v (Fw (fun _ p s => Mh k v p s) i l s) = s.2 ++ Ix k v s.1 l
 | [], i, s => by
  show Aj7 k v s = _
  unfold Aj7 Ix
  cases s.1 <;> simp
 | p :: r, i, s => by
  show Aj7 k v (Fw (fun _ p s => Mh k v p s) (i + 1) r (Mh k v p s)) = _
  rw [Ang k v r (i + 1)]
  unfold Mh
  simp only [Ix]
  cases hg : !s.1 && gtS p.1 k with
  | true =>
   obtain ⟨_, h2⟩ := Cq hg
   have he : (p.1.toList == k.toList) = false := by
    unfold gtS at h2
    rw [Bool.not_eq_true', Bool.or_eq_false_iff] at h2
    exact h2.2
   rw [he]
   simp only [cond_true, Bool.not_false]
   rw [List.append_assoc, List.append_assoc]
   rfl
  | false =>
   simp only [cond_false]
   cases he : p.1.toList == k.toList with
   | true => rfl
   | false =>
    simp only [cond_true, cond_false, Bool.not_false]
    rw [List.append_assoc]
    rfl
theorem Acx (k v : ByteArray) (p : Pr2) (s : Bool × List Pr2) : (Mh k v p s).2.length ≤ s.2.length + 2 := by
 unfold Mh
 cases !s.1 && gtS p.1 k <;> cases !(p.1.toList == k.toList) <;> simp
theorem Arr (c : Chg) (l : List Pr2) : (Acu c l).length ≤ l.length + 1 := by
 unfold Acu
 generalize c.2.2.1 = d
 induction l generalizing d with
 | nil => cases d <;> simp [Ix]
 | cons p r ih =>
  simp only [Ix]
  have ht : ∀ r : List Pr2, (Ix c.1 c.2.1 true r).length ≤ r.length := fun r => by
   induction r with
   | nil => simp [Ix]
   | cons q r ih2 =>
    simp only [Ix, Bool.not_true, Bool.false_and, cond_false]
    cases q.1.toList == c.1.toList with
    | true => simp only [cond_true, List.length_cons]; omega
    | false => simp only [cond_false, List.length_cons]; omega
  cases !d && gtS p.1 c.1 with
  | true => simp only [cond_true, List.length_cons]; have := ht r; omega
  | false =>
   simp only [cond_false]
   cases p.1.toList == c.1.toList with
   | true => simp only [cond_true, List.length_cons]; have := ih d; omega
   | false => simp only [cond_false, List.length_cons]; have := ih d; omega
theorem k8 {q : Pr2 → Prop} : ∀ {b : List Chg} {i : Nat} {l : List Pr2}, (∀ x ∈ l, q x) → (∀ c ∈ b, q (c.1, c.2.1, ())) → ∀ x ∈ Fw (fun _ c l => Acu c l) i b l, q x
 | [], _, _, h, _ => h
 | c :: b, i, l, h, hb => k8 (b := b) (i := i + 1) (fun x hx => by
  rcases (Nl x l c.2.2.1).1 hx with q1 | q1
  ·exact h x q1.1
  ·rw [q1.2]; exact hb c List.mem_cons_self) (fun c' hc' => hb c' (List.mem_cons_of_mem _ hc'))
def As0 (x : Pr2) : Prop := Iu x.1 = true ∧ x.2.1.size ≤ 100
theorem Aql {l : List Pr2} (hl : l.length ≤ 100) (hm : ∀ x ∈ l, As0 x) (hs : Srt l) : A3 (l, ()) = true := by
 unfold A3
 rw [decide_eq_true (show (l, ()).1.length ≤ 100 from hl), Bool.true_and]
 refine List.all_eq_true.2 fun i hi => ?_
 have hi : i < l.length := by simpa [List.mem_range'] using hi
 have hx : l.getD i zP = l[i] := by simp [hi]
 obtain ⟨h1, h2⟩ := hm l[i] (List.getElem_mem hi)
 show Gj l i = true
 unfold Gj
 rw [hx, h1, decide_eq_true h2, Bool.true_and, Bool.true_and]
 cases i with
 | zero => rfl
 | succ i =>
  have hx2 : l.getD i zP = l[i] := by simp [show i < l.length by omega]
  have := (List.pairwise_iff_getElem.1 hs) i (i + 1) (by omega) hi (Nat.lt_succ_self i)
  show ((i + 1 == 0) || bl (l.getD (i + 1 - 1) zP).1 l[i + 1].1) = true
  rw [show i + 1 - 1 = i from rfl, hx2, this, Bool.or_true]
theorem Aoi {s : Stt} (h : A3 s = true) : ∀ x ∈ s.1, As0 x := fun x hx => by
 obtain ⟨i, hi, rfl⟩ := Acj zP hx
 have := Zg (Cq h).2 i hi
 unfold Gj at this
 obtain ⟨h1, h2⟩ := Cq this
 exact ⟨h1, of_decide_eq_true (Cq h2).1⟩
theorem Ars {b : List Chg} (h : A4 b = true) : ∀ c ∈ b, As0 (c.1, c.2.1, ()) := fun c hc => by
 obtain ⟨i, hi, rfl⟩ := Acj zC hc
 have := (Ks h).2 i hi
 unfold Lo at this
 obtain ⟨h1, h2⟩ := Cq this
 exact ⟨h1, of_decide_eq_true (Cq h2).1⟩
theorem Aj8 : ∀ {b : List Chg} {i : Nat} {l : List Pr2}, Srt l → Srt (Fw (fun _ c l => Acu c l) i b l)
 | [], _, _, h => h
 | c :: b, i, l, h => Aj8 (b := b) (i := i + 1) (Tr _ _ h)
theorem Aj9 (s : Stt) (b : List Chg) : A3 (D7 s b).1 = true := by
 unfold D7
 cases hv : A3 s with
 | false => rfl
 | true =>
  cases hb : A4 b with
  | false => rfl
  | true =>
   simp only [Bool.not_true, cond_false]
   by_cases q : (H8 s.1 b).length > 100
   ·rw [decide_eq_true q]; rfl
   ·rw [decide_eq_false q]
    exact Aql (by omega) (k8 (Aoi hv) (Ars hb)) (Aj8 (Agm hv))
theorem Al2 (s : Stt) (b : List Chg) : G4 tSt (D7 s b).1 = true := Al1 (Aj9 s b)
def Fs (s : Sto) (b : List Chg) : List ByteArray := Aek (F8 b) s.2.2.1 (s.2.2.2.1.2.2.1 + s.2.2.2.2.1) s.1
def Tt (s : Sto) (b : List Chg) : Don :=
 bif !D6 s then Al0 1 else bif !A4 b then Al0 1 else
 bif (D7 s.2.2.2.2.2.2.1 b).2 != 0 then Al0 2 else
 bif decide (Mg (D7 s.2.2.2.2.2.2.1 b).1 s.1 > A0 s.2.1 - 1) then Al0 3 else
 bif decide (nI (Fs s b).length > A0 s.2.1 - s.2.2.2.2.1) then Al0 4 else
 (0, (s.1, s.2.1, s.2.2.1, s.2.2.2.1, s.2.2.2.2.1 + nI (Fs s b).length, s.2.2.2.2.2.1 + nI (Fs s b).length, (D7 s.2.2.2.2.2.2.1 b).1, ()), j9 (Ht s.2.2.2.1.2.1 s.2.1 + s.2.2.2.2.1) (Fs s b), ())
theorem Aka (s : Sto) (b : List Chg) : G4 Atn (Tt s b) = true := by
 unfold Tt
 cases D6 s with
 | false => rfl
 | true =>
  cases A4 b with
  | false => rfl
  | true =>
   simp only [Bool.not_true, cond_false]
   cases (D7 s.2.2.2.2.2.2.1 b).2 != 0 with
   | true => rfl
   | false =>
    simp only [cond_false]
    cases decide (Mg (D7 s.2.2.2.2.2.2.1 b).1 s.1 > A0 s.2.1 - 1) with
    | true => rfl
    | false =>
     simp only [cond_false]
     cases decide (nI (Fs s b).length > A0 s.2.1 - s.2.2.2.2.1) with
     | true => rfl
     | false =>
      refine Aof (Al2 _ _) (Aqi ?_ (Aco _ _ fun x hx => Aog hx))
      have := Aa1 b s.2.2.1 (s.2.2.2.1.2.2.1 + s.2.2.2.2.1) s.1
      rw [Agk]
      unfold Fs
      omega
theorem Acy {s : Stt} {b : List Chg} (hv : A3 s = true) (hb : A4 b = true) : (D7 s b).2 = 0 ∨ (D7 s b).2 = 2 := by
 unfold D7
 rw [hv, hb]
 simp only [Bool.not_true, cond_false]
 cases decide ((H8 s.1 b).length > 100) with
 | true => exact .inr rfl
 | false => exact .inl rfl
end Go.Proofs.YteaoabdlcefkhaaGreat.V

