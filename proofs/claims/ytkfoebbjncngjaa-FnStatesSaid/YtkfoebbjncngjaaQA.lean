/- Pairs in the order of their keys. No condition. -/
import Derived.Test.YtkfoebbjncngjaaQS
namespace Go.Proofs.Ytkfoebbjncngjaa.V
open Go Go.Proofs.Ytkfoebbjncngjaa.R
set_option linter.unusedVariables false
set_option linter.unusedSimpArgs false
theorem U2 : ∀ x : List UInt8, Op.bytesLess x x = false
 | [] => rfl
 | a :: x => by simp [Op.bytesLess, U2 x]
theorem Xr : ∀ {x y z : List UInt8}, Op.bytesLess x y = true → Op.bytesLess y z = true → Op.bytesLess x z = true
 | [], [], _, h, _ => by simp [Op.bytesLess] at h
 | [], _ :: _, [], _, k => by simp [Op.bytesLess] at k
 | [], _ :: _, _ :: _, _, _ => rfl
 | _ :: _, [], _, h, _ => by simp [Op.bytesLess] at h
 | _ :: _, _ :: _, [], _, k => by simp [Op.bytesLess] at k
 | a :: x, b :: y, c :: z, h, k => by
  simp only [Op.bytesLess, Bool.or_eq_true, decide_eq_true_eq, Bool.and_eq_true, beq_iff_eq] at h k ⊢
  rcases h with h | ⟨rfl, h⟩
  ·rcases k with k | ⟨rfl, k⟩
   ·exact .inl (UInt8.lt_trans h k)
   ·exact .inl h
  ·rcases k with k | ⟨rfl, k⟩
   ·exact .inl k
   ·exact .inr ⟨rfl, Xr h k⟩
theorem Aa7 : ∀ {x y : List UInt8}, Op.bytesLess x y = false → Op.bytesLess y x = false → x = y
 | [], [], _, _ => rfl
 | [], _ :: _, h, _ => by simp [Op.bytesLess] at h
 | _ :: _, [], _, k => by simp [Op.bytesLess] at k
 | a :: x, b :: y, h, k => by
  simp only [Op.bytesLess, Bool.or_eq_false_iff, decide_eq_false_iff_not, Bool.and_eq_false_iff] at h k
  have hab : a = b := by
   apply UInt8.le_antisymm
   ·exact UInt8.not_lt.1 k.1
   ·exact UInt8.not_lt.1 h.1
  subst hab
  have h2 : Op.bytesLess x y = false := by rcases h.2 with q | q <;> simp_all
  have k2 : Op.bytesLess y x = false := by rcases k.2 with q | q <;> simp_all
  rw [Aa7 h2 k2]
theorem Ht (a : ByteArray) : bl a a = false := U2 _
theorem Jy {a b c : ByteArray} (h : bl a b = true) (k : bl b c = true) : bl a c = true := Xr h k
theorem Ze {a b : ByteArray} (h : bl a b = false) (k : bl b a = false) : a = b := Cj.1 (beq_iff_eq.2 (Aa7 h k))
theorem Ad8 {a b : ByteArray} (h : bl a b = true) : a ≠ b := fun q => by rw [q, Ht] at h; cases h
def Ta (l : List Pr2) : Prop := l.Pairwise fun a b => bl a.1 b.1 = true
theorem Tc : ∀ {l m : List Pr2}, Ta l → Ta m → (∀ x, x ∈ l ↔ x ∈ m) → l = m
 | [], [], _, _, _ => rfl
 | [], b :: m, _, _, h => by have := (h b).2 List.mem_cons_self; cases this
 | a :: l, [], _, _, h => by have := (h a).1 List.mem_cons_self; cases this
 | a :: l, b :: m, hl, hm, h => by
  obtain ⟨l1, l2⟩ := List.pairwise_cons.1 hl
  obtain ⟨m1, m2⟩ := List.pairwise_cons.1 hm
  have hab : a = b := by
   rcases List.mem_cons.1 ((h a).1 List.mem_cons_self) with q | q
   ·exact q
   ·rcases List.mem_cons.1 ((h b).2 List.mem_cons_self) with q2 | q2
    ·exact q2.symm
    ·have := Jy (m1 a q) (l1 b q2)
     rw [Ht] at this
     cases this
  subst hab
  rw [Tc l2 m2 fun x => ⟨fun q => ?_, fun q => ?_⟩]
  ·rcases List.mem_cons.1 ((h x).1 (List.mem_cons_of_mem _ q)) with rfl | q2
   ·have := l1 x q; rw [Ht] at this; cases this
   ·exact q2
  ·rcases List.mem_cons.1 ((h x).2 (List.mem_cons_of_mem _ q)) with rfl | q2
   ·have := m1 x q; rw [Ht] at this; cases this
   ·exact q2
theorem U3 (p x : Pr2) : ∀ l : List Pr2, x ∈ Sg p l ↔ x = p ∨ x ∈ l
 | [] => by simp [Sg]
 | q :: r => by
  simp only [Sg]
  cases ltK q p with
  | true => simp only [cond_true, List.mem_cons, U3 p x r]; constructor <;> (rintro (h | h | h) <;> simp [h])
  | false => simp only [cond_false, List.mem_cons]
theorem Nb (x : Pr2) : ∀ l : List Pr2, x ∈ Fy l ↔ x ∈ l
 | [] => Iff.rfl
 | p :: r => by
  show x ∈ Sg p (Fy r) ↔ _
  rw [U3, Nb x r, List.mem_cons]
theorem j6 {p : Pr2} : ∀ {l : List Pr2}, Ta l → (∀ q ∈ l, q.1 ≠ p.1) → Ta (Sg p l)
 | [], _, _ => List.pairwise_singleton _ _
 | q :: r, hl, hp => by
  obtain ⟨l1, l2⟩ := List.pairwise_cons.1 hl
  simp only [Sg]
  cases hq : ltK q p with
  | true =>
   refine List.pairwise_cons.2 ⟨fun x hx => ?_, j6 l2 fun y hy => hp y (List.mem_cons_of_mem _ hy)⟩
   rcases (U3 p x r).1 hx with rfl | h
   ·exact hq
   ·exact l1 x h
  | false =>
   have hpq : bl p.1 q.1 = true := by
    cases h : bl p.1 q.1 with
    | true => rfl
    | false => exact absurd (Ze hq h) (hp q List.mem_cons_self)
   refine List.pairwise_cons.2 ⟨fun x hx => ?_, hl⟩
   rcases List.mem_cons.1 hx with rfl | h
   ·exact hpq
   ·exact Jy hpq (l1 x h)
theorem De {p : Pr2} {r : List Pr2} : Bs (p :: r) = true ↔ (∀ q ∈ r, q.1 ≠ p.1) ∧ Bs r = true := by
 simp only [Bs, Bool.and_eq_true, Bool.not_eq_true', List.any_eq_false]
 constructor
 ·rintro ⟨h1, h2⟩
  exact ⟨fun q hq e => h1 q hq (by rw [e]; simp), h2⟩
 ·rintro ⟨h1, h2⟩
  exact ⟨fun q hq e => h1 q hq (Cj.1 e), h2⟩
theorem Q4 : ∀ {l : List Pr2}, Bs l = true → Ta (Fy l)
 | [], _ => List.Pairwise.nil
 | p :: r, h => by
  obtain ⟨h1, h2⟩ := De.1 h
  exact j6 (Q4 h2) fun q hq => h1 q ((Nb q r).1 hq)
abbrev Mp := List (ByteArray × ByteArray)
def Kb (m : Mp) : List Pr2 := m.map fun p => (p.1, p.2, ())
theorem Me {k v : ByteArray} (x : Pr2) : ∀ {m : Mp}, Bs (Kb m) = true → (x ∈ Kb (Hz k v m) ↔ (x ∈ Kb m ∧ x.1 ≠ k) ∨ x = (k, v, ()))
 | [], _ => by simp [Hz, Kb]
 | p :: r, h => by
  obtain ⟨h1, h2⟩ := De.1 (show Bs ((p.1, p.2, ()) :: Kb r) = true from h)
  simp only [Hz]
  cases hk : Lr p.1 k with
  | true =>
   have hk := Cj.1 hk
   simp only [cond_true]
   show x ∈ (k, v, ()) :: Kb r ↔ (x ∈ (p.1, p.2, ()) :: Kb r ∧ _) ∨ _
   rw [List.mem_cons, List.mem_cons]
   constructor
   ·rintro (rfl | q)
    ·exact .inr rfl
    ·exact .inl ⟨.inr q, fun e => h1 x q (by rw [e, hk])⟩
   ·rintro (⟨q | q, e⟩ | q)
    ·subst q
     exact absurd hk e
    ·exact .inr q
    ·exact .inl q
  | false =>
   have hk : p.1 ≠ k := fun q => by rw [Cj.2 q] at hk; cases hk
   simp only [cond_false]
   show x ∈ (p.1, p.2, ()) :: Kb (Hz k v r) ↔ (x ∈ (p.1, p.2, ()) :: Kb r ∧ _) ∨ _
   rw [List.mem_cons, List.mem_cons, Me x h2]
   constructor
   ·rintro (rfl | ⟨q, e⟩ | q)
    ·exact .inl ⟨.inl rfl, hk⟩
    ·exact .inl ⟨.inr q, e⟩
    ·exact .inr q
   ·rintro (⟨q | q, e⟩ | q)
    ·exact .inl q
    ·exact .inr (.inl ⟨q, e⟩)
    ·exact .inr (.inr q)
theorem Oj {k v : ByteArray} : ∀ {m : Mp}, Bs (Kb m) = true → Bs (Kb (Hz k v m)) = true
 | [], _ => rfl
 | p :: r, h => by
  obtain ⟨h1, h2⟩ := De.1 (show Bs ((p.1, p.2, ()) :: Kb r) = true from h)
  simp only [Hz]
  cases hk : Lr p.1 k with
  | true =>
   have hk := Cj.1 hk
   simp only [cond_true]
   exact De.2 ⟨fun q hq => by rw [← hk]; exact h1 q hq, h2⟩
  | false =>
   have hk : p.1 ≠ k := fun q => by rw [Cj.2 q] at hk; cases hk
   simp only [cond_false]
   refine De.2 ⟨fun q hq => ?_, Oj h2⟩
   rcases (Me q h2).1 hq with ⟨a, _⟩ | rfl
   ·exact h1 q a
   ·exact fun e => hk e.symm
theorem U4 {k : ByteArray} (x : Pr2) : ∀ {m : Mp}, Bs (Kb m) = true → (x ∈ Kb (Ls k m) ↔ x ∈ Kb m ∧ x.1 ≠ k)
 | [], _ => by simp [Ls, Kb]
 | p :: r, h => by
  obtain ⟨h1, h2⟩ := De.1 (show Bs ((p.1, p.2, ()) :: Kb r) = true from h)
  simp only [Ls]
  cases hk : Lr p.1 k with
  | true =>
   have hk := Cj.1 hk
   simp only [cond_true]
   show x ∈ Kb r ↔ x ∈ (p.1, p.2, ()) :: Kb r ∧ _
   rw [List.mem_cons]
   constructor
   ·intro q
    exact ⟨.inr q, fun e => h1 x q (by rw [e, hk])⟩
   ·rintro ⟨q | q, e⟩
    ·subst q
     exact absurd hk e
    ·exact q
  | false =>
   have hk : p.1 ≠ k := fun q => by rw [Cj.2 q] at hk; cases hk
   simp only [cond_false]
   show x ∈ (p.1, p.2, ()) :: Kb (Ls k r) ↔ x ∈ (p.1, p.2, ()) :: Kb r ∧ _
   rw [List.mem_cons, List.mem_cons, U4 x h2]
   constructor
   ·rintro (rfl | ⟨q, e⟩)
    ·exact ⟨.inl rfl, hk⟩
    ·exact ⟨.inr q, e⟩
   ·rintro ⟨q | q, e⟩
    ·exact .inl q
    ·exact .inr ⟨q, e⟩
theorem U5 {k : ByteArray} : ∀ {m : Mp}, Bs (Kb m) = true → Bs (Kb (Ls k m)) = true
 | [], _ => rfl
 | p :: r, h => by
  obtain ⟨h1, h2⟩ := De.1 (show Bs ((p.1, p.2, ()) :: Kb r) = true from h)
  simp only [Ls]
  cases hk : Lr p.1 k with
  | true => exact h2
  | false =>
   simp only [cond_false]
   exact De.2 ⟨fun q hq => h1 q ((U4 q h2).1 hq).1, U5 h2⟩
def gtS (a k : ByteArray) : Bool := !(bl a k || a.toList == k.toList)
def Fo (k v : ByteArray) : Bool → List Pr2 → List Pr2
 | d, [] => bif d then [] else [(k, v, ())]
 | d, p :: r => bif !d && gtS p.1 k then (k, v, ()) :: p :: Fo k v true r else bif p.1.toList == k.toList then Fo k v d r else p :: Fo k v d r
def G2 (c : Chg) (l : List Pr2) : List Pr2 := Fo c.1 c.2.1 c.2.2.1 l
theorem Af7 {a k : ByteArray} (h : gtS a k = true) : bl k a = true := by
 unfold gtS at h
 rw [Bool.not_eq_true', Bool.or_eq_false_iff] at h
 cases q : bl k a with
 | true => rfl
 | false => exact absurd (Ze h.1 q) (fun e => by rw [e] at h; simp at h)
theorem F5 {k v : ByteArray} (x : Pr2) : ∀ (l : List Pr2) (d : Bool), x ∈ Fo k v d l ↔ (x ∈ l ∧ x.1 ≠ k) ∨ (d = false ∧ x = (k, v, ()))
 | [], d => by cases d <;> simp [Fo]
 | p :: r, d => by
  simp only [Fo]
  cases hg : !d && gtS p.1 k with
  | true =>
   obtain ⟨hd, hg⟩ := Hc hg
   have hd : d = false := by cases d <;> simp_all
   have hp : p.1 ≠ k := fun e => Ad8 (Af7 hg) e.symm
   subst hd
   simp only [cond_true, List.mem_cons, F5 x r true]
   constructor
   ·rintro (q | q | q | q)
    ·exact .inr ⟨by simp, q⟩
    ·exact .inl ⟨.inl q, by rw [q]; exact hp⟩
    ·exact .inl ⟨.inr q.1, q.2⟩
    ·cases q.1
   ·rintro (⟨q | q, e⟩ | q)
    ·exact .inr (.inl q)
    ·exact .inr (.inr (.inl ⟨q, e⟩))
    ·exact .inl q.2
  | false =>
   simp only [cond_false]
   cases he : p.1.toList == k.toList with
   | true =>
    have he : p.1 = k := Cj.1 he
    simp only [cond_true, List.mem_cons, F5 x r d]
    constructor
    ·rintro (q | q)
     ·exact .inl ⟨.inr q.1, q.2⟩
     ·exact .inr q
    ·rintro (⟨q | q, e⟩ | q)
     ·exact absurd (by rw [q]; exact he) e
     ·exact .inl ⟨q, e⟩
     ·exact .inr q
   | false =>
    have he : p.1 ≠ k := fun q => by rw [show (p.1.toList == k.toList) = true from Cj.2 q] at he; cases he
    simp only [cond_false, List.mem_cons, F5 x r d]
    constructor
    ·rintro (q | q | q)
     ·exact .inl ⟨.inl q, by rw [q]; exact he⟩
     ·exact .inl ⟨.inr q.1, q.2⟩
     ·exact .inr q
    ·rintro (⟨q | q, e⟩ | q)
     ·exact .inl q
     ·exact .inr (.inl ⟨q, e⟩)
     ·exact .inr (.inr q)
theorem K2 {k v : ByteArray} : ∀ (l : List Pr2) (d : Bool), Ta l → Ta (Fo k v d l)
 | [], d, _ => by cases d <;> simp [Fo, Ta]
 | p :: r, d, h => by
  obtain ⟨h1, h2⟩ := List.pairwise_cons.1 h
  simp only [Fo]
  cases hg : !d && gtS p.1 k with
  | true =>
   obtain ⟨hd, hg⟩ := Hc hg
   have hkp := Af7 hg
   simp only [cond_true]
   have hall : ∀ x ∈ Fo k v true r, x ∈ r := fun x hx => by
    rcases (F5 x r true).1 hx with q | q
    ·exact q.1
    ·cases q.1
   refine List.pairwise_cons.2 ⟨fun x hx => ?_, List.pairwise_cons.2 ⟨fun x hx => h1 x (hall x hx), K2 r true h2⟩⟩
   rcases List.mem_cons.1 hx with rfl | q
   ·exact hkp
   ·exact Jy hkp (h1 x (hall x q))
  | false =>
   simp only [cond_false]
   cases he : p.1.toList == k.toList with
   | true => exact K2 r d h2
   | false =>
    simp only [cond_false]
    refine List.pairwise_cons.2 ⟨fun x hx => ?_, K2 r d h2⟩
    rcases (F5 x r d).1 hx with q | ⟨hd, rfl⟩
    ·exact h1 x q.1
    ·subst hd
     have hn : gtS p.1 k = false := by simpa using hg
     unfold gtS at hn
     rw [he, Bool.or_false, Bool.not_eq_false'] at hn
     exact hn
def R9 (c : Chg) (m : Mp) : Mp := bif c.2.2.1 then Ls c.1 m else Hz c.1 c.2.1 m
def Nd (m : Mp) (l : List Pr2) : Prop := Bs (Kb m) = true ∧ Ta l ∧ ∀ x, x ∈ Kb m ↔ x ∈ l
theorem Nd.step {m : Mp} {l : List Pr2} (h : Nd m l) (c : Chg) : Nd (R9 c m) (G2 c l) := by
 obtain ⟨h1, h2, h3⟩ := h
 unfold R9 G2
 cases hc : c.2.2.1 with
 | true =>
  refine ⟨U5 h1, K2 _ _ h2, fun x => ?_⟩
  simp only [cond_true]
  rw [U4 x h1, F5, h3]
  simp
 | false =>
  refine ⟨Oj h1, K2 _ _ h2, fun x => ?_⟩
  simp only [cond_false]
  rw [Me x h1, F5, h3]
  simp
theorem Nd.sort {m : Mp} {l ys : List Pr2} (h : Nd m l) (hn : Bs ys = true) (hy : ∀ x, x ∈ ys ↔ x ∈ Kb m) : Fy ys = l :=
 Tc (Q4 hn) h.2.1 fun x => by rw [Nb, hy, h.2.2]
theorem Nd.len {m : Mp} {l : List Pr2} (h : Nd m l) : m.length = l.length := by
 have := congrArg List.length (h.sort h.1 fun _ => Iff.rfl)
 rw [Jv] at this
 simpa [Kb] using this
def C3 (l : List Pr2) (b : List Chg) : List Pr2 := Ck (fun _ c l => G2 c l) 0 b l
def A6 (s : Stt) (b : List Chg) : Stt × Int :=
 bif !Af s then (zSs, 1) else bif !Av b then (zSs, 1) else bif decide ((C3 s.1 b).length > 100) then (zSs, 2) else ((C3 s.1 b, ()), 0)
theorem Nd.fold : ∀ {b : List Chg} {i : Nat} {m : Mp} {l : List Pr2}, Nd m l → Nd (Ck (fun _ c m => R9 c m) i b m) (Ck (fun _ c l => G2 c l) i b l)
 | [], _, _, _, h => h
 | c :: b, i, m, l, h => Nd.fold (b := b) (i := i + 1) (h.step c)
def U6 (l : List Pr2) : Mp := Ck (fun _ p m => Hz p.1 p.2.1 m) 0 l []
theorem Aa8 : ∀ {l : List Pr2} {i : Nat} {m : Mp}, Bs (Kb m) = true → Ta l → (∀ p ∈ l, ∀ x ∈ Kb m, x.1 ≠ p.1) →
  Bs (Kb (Ck (fun _ p m => Hz p.1 p.2.1 m) i l m)) = true ∧ ∀ x, x ∈ Kb (Ck (fun _ p m => Hz p.1 p.2.1 m) i l m) ↔ x ∈ Kb m ∨ x ∈ l
 | [], _, m, h, _, _ => ⟨h, fun x => by simp [Ck]⟩
 | p :: r, i, m, h, hs, hk => by
  obtain ⟨s1, s2⟩ := List.pairwise_cons.1 hs
  obtain ⟨k1, k2⟩ := Aa8 (l := r) (i := i + 1) (m := Hz p.1 p.2.1 m) (Oj h) s2 (fun q hq x hx => by
   rcases (Me x h).1 hx with ⟨a, _⟩ | rfl
   ·exact hk q (List.mem_cons_of_mem _ hq) x a
   ·exact Ad8 (s1 q hq))
  refine ⟨k1, fun x => (k2 x).trans ?_⟩
  rw [Me x h, List.mem_cons]
  constructor
  ·rintro ((⟨a, _⟩ | a) | a)
   ·exact .inl a
   ·exact .inr (.inl a)
   ·exact .inr (.inr a)
  ·rintro (a | a | a)
   ·exact .inl (.inl ⟨a, hk p List.mem_cons_self x a⟩)
   ·exact .inl (.inr a)
   ·exact .inr a
theorem Nd.init {l : List Pr2} (h : Ta l) : Nd (U6 l) l := by
 obtain ⟨h1, h2⟩ := Aa8 (l := l) (i := 0) (m := []) rfl h (fun _ _ x hx => by cases hx)
 exact ⟨h1, h, fun x => (h2 x).trans (by simp [Kb])⟩
theorem Ad9 : ∀ {l : List Pr2}, (∀ i, i + 1 < l.length → bl (l.getD i zP).1 (l.getD (i + 1) zP).1 = true) → Ta l
 | [], _ => List.Pairwise.nil
 | [p], _ => List.pairwise_singleton _ _
 | p :: q :: r, h => by
  have hr : Ta (q :: r) := Ad9 fun i hi => h (i + 1) (by simp only [List.length_cons] at hi ⊢; omega)
  have h0 : bl p.1 q.1 = true := h 0 (by simp)
  refine List.pairwise_cons.2 ⟨fun x hx => ?_, hr⟩
  rcases List.mem_cons.1 hx with rfl | hx
  ·exact h0
  ·exact Jy h0 ((List.pairwise_cons.1 hr).1 x hx)
theorem Jz {s : Stt} (h : Af s = true) : Ta s.1 := Ad9 fun i hi => by
 have := Xi (Hc h).2 (i + 1) hi
 unfold Em at this
 obtain ⟨_, this⟩ := Hc this
 obtain ⟨_, this⟩ := Hc this
 simpa using this
theorem U7 {α : Type} : ∀ {l : List α} {i : Nat} {e : α}, l[i]? = some e → (e :: l.eraseIdx i).Perm l
 | [], i, e, h => by simp at h
 | a :: l, 0, e, h => by simp at h; subst h; exact List.Perm.refl _
 | a :: l, i + 1, e, h => by
  simp only [List.getElem?_cons_succ] at h
  simp only [List.eraseIdx_cons_succ]
  exact (List.Perm.swap a e _).trans ((U7 h).cons a)
theorem K3 : ∀ {l : List Pr2}, Bs l = true ↔ (l.map (·.1)).Nodup
 | [] => by simp [Bs]
 | p :: r => by
  rw [De, List.map_cons, List.nodup_cons, K3 (l := r)]
  constructor
  ·rintro ⟨h1, h2⟩
   exact ⟨fun q => by obtain ⟨x, hx, e⟩ := List.mem_map.1 q; exact h1 x hx e, h2⟩
  ·rintro ⟨h1, h2⟩
   exact ⟨fun q hq e => h1 (List.mem_map.2 ⟨q, hq, e⟩), h2⟩
theorem Mf {l m : List Pr2} (h : l.Perm m) (hn : Bs l = true) : Bs m = true := K3.2 (((h.map (·.1)).nodup_iff).1 (K3.1 hn))
theorem Aea {R : Type} (M : Mp) (l0 : List Pr2) (hM : Nd M l0) (hlen : M.length ≤ 100) {D : Type} (mk : Mp → Option (ByteArray × ByteArray) → List Pr2 → D) {left : D → Mp} {stp : D → ByteArray × ByteArray → Mp → Option D} {fin : D → Option R} {res : R}
  (hl : ∀ l c r, left (mk l c r) = l) (hs : ∀ l c r e l', r.length < 1000 → stp (mk l c r) e l' = some (mk l' (some e) (r ++ [(e.1, e.2, ())])))
  (hf : ∀ c r, Bs r = true → r.length ≤ 1000 → Fy r = l0 → fin (mk [] c r) = some res) :
  ∀ (n : Nat) (l : Mp) (c : Option (ByteArray × ByteArray)) (r : List Pr2), l.length = n → (r ++ Kb l).Perm (Kb M) → Si left stp fin (n + 1) (mk l c r) res
 | 0, l, c, r, hn, hp => by
  have : l = [] := List.length_eq_zero_iff.1 hn
  subst this
  have hp' : r.Perm (Kb M) := by simpa [Kb] using hp
  have hl2 := hp'.length_eq
  refine ⟨fun _ => hf c r (Mf hp'.symm hM.1) ?_ (hM.sort (Mf hp'.symm hM.1) fun x => hp'.mem_iff), fun i e he => ?_⟩
  ·rw [hl2]; simp only [Kb, List.length_map]; omega
  ·rw [hl] at he; simp at he
 | n + 1, l, c, r, hn, hp => by
  refine ⟨fun q => ?_, fun i e he => ?_⟩
  ·rw [hl] at q; rw [q] at hn; cases hn
  ·rw [hl] at he
   have hq := U7 he
   have hr : r.length < 1000 := by
    have := hp.length_eq
    simp only [Kb, List.length_append, List.length_map] at this
    omega
   refine ⟨mk (l.eraseIdx i) (some e) (r ++ [(e.1, e.2, ())]), by rw [hs l c r e _ hr, hl], ?_⟩
   refine Aea M l0 hM hlen mk hl hs hf n (l.eraseIdx i) (some e) (r ++ [(e.1, e.2, ())]) ?_ ?_
   ·have := hq.length_eq
    simp only [List.length_cons] at this
    omega
   ·refine List.Perm.trans ?_ hp
    rw [List.append_assoc]
    exact List.Perm.append_left r (hq.map fun p : ByteArray × ByteArray => ((p.1, p.2, ()) : Pr2))
def H6 (k v : ByteArray) (p : Pr2) (s : Bool × List Pr2) : Bool × List Pr2 :=
 bif !s.1 && gtS p.1 k then (true, bif !(p.1.toList == k.toList) then s.2 ++ [(k, v, ())] ++ [(p.1, p.2.1, ())] else s.2 ++ [(k, v, ())])
 else (s.1, bif !(p.1.toList == k.toList) then s.2 ++ [(p.1, p.2.1, ())] else s.2)
def j7 (k v : ByteArray) (s : Bool × List Pr2) : List Pr2 := bif s.1 then s.2 else s.2 ++ [(k, v, ())]
theorem Aa9 (k v : ByteArray) : ∀ (l : List Pr2) (i : Nat) (s : Bool × List Pr2), j7 k v (Ck (fun _ p s => H6 k v p s) i l s) = s.2 ++ Fo k v s.1 l
 | [], i, s => by
  show j7 k v s = _
  unfold j7 Fo
  cases s.1 <;> simp
 | p :: r, i, s => by
  show j7 k v (Ck (fun _ p s => H6 k v p s) (i + 1) r (H6 k v p s)) = _
  rw [Aa9 k v r (i + 1)]
  unfold H6
  simp only [Fo]
  cases hg : !s.1 && gtS p.1 k with
  | true =>
   obtain ⟨_, h2⟩ := Hc hg
   have he : (p.1.toList == k.toList) = false := by
    unfold gtS at h2
    rw [Bool.not_eq_true', Bool.or_eq_false_iff] at h2
    exact h2.2
   rw [he]
   simp only [cond_true, Bool.not_false]
   rw [List.append_assoc, List.append_assoc]
   rfl
  | false =>
   simp only [cond_false]
   cases he : p.1.toList == k.toList with
   | true => rfl
   | false =>
    simp only [cond_true, cond_false, Bool.not_false]
    rw [List.append_assoc]
    rfl
theorem U8 (k v : ByteArray) (p : Pr2) (s : Bool × List Pr2) : (H6 k v p s).2.length ≤ s.2.length + 2 := by
 unfold H6
 cases !s.1 && gtS p.1 k <;> cases !(p.1.toList == k.toList) <;> simp
theorem Afk (c : Chg) (l : List Pr2) : (G2 c l).length ≤ l.length + 1 := by
 unfold G2
 generalize c.2.2.1 = d
 induction l generalizing d with
 | nil => cases d <;> simp [Fo]
 | cons p r ih =>
  simp only [Fo]
  have ht : ∀ r : List Pr2, (Fo c.1 c.2.1 true r).length ≤ r.length := fun r => by
   induction r with
   | nil => simp [Fo]
   | cons q r ih2 =>
    simp only [Fo, Bool.not_true, Bool.false_and, cond_false]
    cases q.1.toList == c.1.toList with
    | true => simp only [cond_true, List.length_cons]; omega
    | false => simp only [cond_false, List.length_cons]; omega
  cases !d && gtS p.1 c.1 with
  | true => simp only [cond_true, List.length_cons]; have := ht r; omega
  | false =>
   simp only [cond_false]
   cases p.1.toList == c.1.toList with
   | true => simp only [cond_true, List.length_cons]; have := ih d; omega
   | false => simp only [cond_false, List.length_cons]; have := ih d; omega
theorem Sa {q : Pr2 → Prop} : ∀ {b : List Chg} {i : Nat} {l : List Pr2}, (∀ x ∈ l, q x) → (∀ c ∈ b, q (c.1, c.2.1, ())) → ∀ x ∈ Ck (fun _ c l => G2 c l) i b l, q x
 | [], _, _, h, _ => h
 | c :: b, i, l, h, hb => Sa (b := b) (i := i + 1) (fun x hx => by
  rcases (F5 x l c.2.2.1).1 hx with q1 | q1
  ·exact h x q1.1
  ·rw [q1.2]; exact hb c List.mem_cons_self) (fun c' hc' => hb c' (List.mem_cons_of_mem _ hc'))
def Afl (x : Pr2) : Prop := Fm x.1 = true ∧ x.2.1.size ≤ 100
theorem j8 {l : List Pr2} (hl : l.length ≤ 100) (hm : ∀ x ∈ l, Afl x) (hs : Ta l) : Af (l, ()) = true := by
 unfold Af
 rw [decide_eq_true (show (l, ()).1.length ≤ 100 from hl), Bool.true_and]
 refine List.all_eq_true.2 fun i hi => ?_
 have hi : i < l.length := by simpa [List.mem_range'] using hi
 have hx : l.getD i zP = l[i] := by simp [hi]
 obtain ⟨h1, h2⟩ := hm l[i] (List.getElem_mem hi)
 show Em l i = true
 unfold Em
 rw [hx, h1, decide_eq_true h2, Bool.true_and, Bool.true_and]
 cases i with
 | zero => rfl
 | succ i =>
  have hx2 : l.getD i zP = l[i] := by simp [show i < l.length by omega]
  have := (List.pairwise_iff_getElem.1 hs) i (i + 1) (by omega) hi (Nat.lt_succ_self i)
  show ((i + 1 == 0) || bl (l.getD (i + 1 - 1) zP).1 l[i + 1].1) = true
  rw [show i + 1 - 1 = i from rfl, hx2, this, Bool.or_true]
theorem Q5 {s : Stt} (h : Af s = true) : ∀ x ∈ s.1, Afl x := fun x hx => by
 obtain ⟨i, hi, rfl⟩ := g6 zP hx
 have := Xi (Hc h).2 i hi
 unfold Em at this
 obtain ⟨h1, h2⟩ := Hc this
 exact ⟨h1, of_decide_eq_true (Hc h2).1⟩
theorem Afm {b : List Chg} (h : Av b = true) : ∀ c ∈ b, Afl (c.1, c.2.1, ()) := fun c hc => by
 obtain ⟨i, hi, rfl⟩ := g6 zC hc
 have := (Jf h).2 i hi
 unfold F3 at this
 obtain ⟨h1, h2⟩ := Hc this
 exact ⟨h1, of_decide_eq_true (Hc h2).1⟩
theorem j9 : ∀ {b : List Chg} {i : Nat} {l : List Pr2}, Ta l → Ta (Ck (fun _ c l => G2 c l) i b l)
 | [], _, _, h => h
 | c :: b, i, l, h => j9 (b := b) (i := i + 1) (K2 _ _ h)
theorem Mg (s : Stt) (b : List Chg) : Af (A6 s b).1 = true := by
 unfold A6
 cases hv : Af s with
 | false => rfl
 | true =>
  cases hb : Av b with
  | false => rfl
  | true =>
   simp only [Bool.not_true, cond_false]
   by_cases q : (C3 s.1 b).length > 100
   ·rw [decide_eq_true q]; rfl
   ·rw [decide_eq_false q]
    exact j8 (by omega) (Sa (Q5 hv) (Afm hb)) (j9 (Jz hv))
end Go.Proofs.Ytkfoebbjncngjaa.V

