/- Pairs in the order of their keys. No condition. -/
import Derived.Test.YteaoabdlcefkhaaGreatQS
namespace Go.Proofs.YteaoabdlcefkhaaGreat.V
open Go Go.Proofs.YteaoabdlcefkhaaGreat.R
set_option linter.unusedVariables false
set_option linter.unusedSimpArgs false
theorem Ame : ∀ x : List UInt8, Op.bytesLess x x = false
 | [] => rfl
 | a :: x => by simp [Op.bytesLess, Ame x]
theorem Aq8 : ∀ {x y z : List UInt8}, Op.bytesLess x y = true → Op.bytesLess y z = true → Op.bytesLess x z = true
 | [], [], _, h, _ => by simp [Op.bytesLess] at h
 | [], _ :: _, [], _, k => by simp [Op.bytesLess] at k
 | [], _ :: _, _ :: _, _, _ => rfl
 | _ :: _, [], _, h, _ => by simp [Op.bytesLess] at h
 | _ :: _, _ :: _, [], _, k => by simp [Op.bytesLess] at k
 | a :: x, b :: y, c :: z, h, k => by
  simp only [Op.bytesLess, Bool.or_eq_true, decide_eq_true_eq, Bool.and_eq_true, beq_iff_eq] at h k ⊢
  rcases h with h | ⟨rfl, h⟩
  ·rcases k with k | ⟨rfl, k⟩
   ·exact .inl (UInt8.lt_trans h k)
   ·exact .inl h
  ·rcases k with k | ⟨rfl, k⟩
   ·exact .inl k
   ·exact .inr ⟨rfl, Aq8 h k⟩
theorem Ay2 : ∀ {x y : List UInt8}, Op.bytesLess x y = false → Op.bytesLess y x = false → x = y
 | [], [], _, _ => rfl
 | [], _ :: _, h, _ => by simp [Op.bytesLess] at h
 | _ :: _, [], _, k => by simp [Op.bytesLess] at k
 | a :: x, b :: y, h, k => by
  simp only [Op.bytesLess, Bool.or_eq_false_iff, decide_eq_false_iff_not, Bool.and_eq_false_iff] at h k
  have hab : a = b := by
   apply UInt8.le_antisymm
   ·exact UInt8.not_lt.1 k.1
   ·exact UInt8.not_lt.1 h.1
  subst hab
  have h2 : Op.bytesLess x y = false := by rcases h.2 with q | q <;> simp_all
  have k2 : Op.bytesLess y x = false := by rcases k.2 with q | q <;> simp_all
  rw [Ay2 h2 k2]
theorem Vg (a : ByteArray) : bl a a = false := Ame _
theorem Vh {a b c : ByteArray} (h : bl a b = true) (k : bl b c = true) : bl a c = true := Aq8 h k
theorem Aso {a b : ByteArray} (h : bl a b = false) (k : bl b a = false) : a = b := Gi.1 (beq_iff_eq.2 (Ay2 h k))
theorem A32 {a b : ByteArray} (h : bl a b = true) : a ≠ b := fun q => by rw [q, Vg] at h; cases h
def Srt (l : List Pr2) : Prop := l.Pairwise fun a b => bl a.1 b.1 = true
theorem Asp : ∀ {l m : List Pr2}, Srt l → Srt m → (∀ x, x ∈ l ↔ x ∈ m) → l = m
 | [], [], _, _, _ => rfl
 | [], b :: m, _, _, h => by have := (h b).2 List.mem_cons_self; cases this
 | a :: l, [], _, _, h => by have := (h a).1 List.mem_cons_self; cases this
 | a :: l, b :: m, hl, hm, h => by
  obtain ⟨l1, l2⟩ := List.pairwise_cons.1 hl
  obtain ⟨m1, m2⟩ := List.pairwise_cons.1 hm
  have hab : a = b := by
   rcases List.mem_cons.1 ((h a).1 List.mem_cons_self) with q | q
   ·exact q
   ·rcases List.mem_cons.1 ((h b).2 List.mem_cons_self) with q2 | q2
    ·exact q2.symm
    ·have := Vh (m1 a q) (l1 b q2)
     rw [Vg] at this
     cases this
  subst hab
  rw [Asp l2 m2 fun x => ⟨fun q => ?_, fun q => ?_⟩]
  ·rcases List.mem_cons.1 ((h x).1 (List.mem_cons_of_mem _ q)) with rfl | q2
   ·have := l1 x q; rw [Vg] at this; cases this
   ·exact q2
  ·rcases List.mem_cons.1 ((h x).2 (List.mem_cons_of_mem _ q)) with rfl | q2
   ·have := m1 x q; rw [Vg] at this; cases this
   ·exact q2
theorem Amf (p x : Pr2) : ∀ l : List Pr2, x ∈ Ah9 p l ↔ x = p ∨ x ∈ l
 | [] => by simp [Ah9]
 | q :: r => by
  simp only [Ah9]
  cases ltK q p with
  | true => simp only [cond_true, List.mem_cons, Amf p x r]; constructor <;> (rintro (h | h | h) <;> simp [h])
  | false => simp only [cond_false, List.mem_cons]
theorem m6 (x : Pr2) : ∀ l : List Pr2, x ∈ Nh l ↔ x ∈ l
 | [] => Iff.rfl
 | p :: r => by
  show x ∈ Ah9 p (Nh r) ↔ _
  rw [Amf, m6 x r, List.mem_cons]
theorem Avg {p : Pr2} : ∀ {l : List Pr2}, Srt l → (∀ q ∈ l, q.1 ≠ p.1) → Srt (Ah9 p l)
 | [], _, _ => List.pairwise_singleton _ _
 | q :: r, hl, hp => by
  obtain ⟨l1, l2⟩ := List.pairwise_cons.1 hl
  simp only [Ah9]
  cases hq : ltK q p with
  | true =>
   refine List.pairwise_cons.2 ⟨fun x hx => ?_, Avg l2 fun y hy => hp y (List.mem_cons_of_mem _ hy)⟩
   rcases (Amf p x r).1 hx with rfl | h
   ·exact hq
   ·exact l1 x h
  | false =>
   have hpq : bl p.1 q.1 = true := by
    cases h : bl p.1 q.1 with
    | true => rfl
    | false => exact absurd (Aso hq h) (hp q List.mem_cons_self)
   refine List.pairwise_cons.2 ⟨fun x hx => ?_, hl⟩
   rcases List.mem_cons.1 hx with rfl | h
   ·exact hpq
   ·exact Vh hpq (l1 x h)
theorem H8 {p : Pr2} {r : List Pr2} : Dz (p :: r) = true ↔ (∀ q ∈ r, q.1 ≠ p.1) ∧ Dz r = true := by
 simp only [Dz, Bool.and_eq_true, Bool.not_eq_true', List.any_eq_false]
 constructor
 ·rintro ⟨h1, h2⟩
  exact ⟨fun q hq e => h1 q hq (by rw [e]; simp), h2⟩
 ·rintro ⟨h1, h2⟩
  exact ⟨fun q hq e => h1 q hq (Gi.1 e), h2⟩
theorem Afj : ∀ {l : List Pr2}, Dz l = true → Srt (Nh l)
 | [], _ => List.Pairwise.nil
 | p :: r, h => by
  obtain ⟨h1, h2⟩ := H8.1 h
  exact Avg (Afj h2) fun q hq => h1 q ((m6 q r).1 hq)
abbrev Mp := List (ByteArray × ByteArray)
def Wh (m : Mp) : List Pr2 := m.map fun p => (p.1, p.2, ())
theorem Zo {k v : ByteArray} (x : Pr2) : ∀ {m : Mp}, Dz (Wh m) = true → (x ∈ Wh (Ru k v m) ↔ (x ∈ Wh m ∧ x.1 ≠ k) ∨ x = (k, v, ()))
 | [], _ => by simp [Ru, Wh]
 | p :: r, h => by
  obtain ⟨h1, h2⟩ := H8.1 (show Dz ((p.1, p.2, ()) :: Wh r) = true from h)
  simp only [Ru]
  cases hk : Y1 p.1 k with
  | true =>
   have hk := Gi.1 hk
   simp only [cond_true]
   show x ∈ (k, v, ()) :: Wh r ↔ (x ∈ (p.1, p.2, ()) :: Wh r ∧ _) ∨ _
   rw [List.mem_cons, List.mem_cons]
   constructor
   ·rintro (rfl | q)
    ·exact .inr rfl
    ·exact .inl ⟨.inr q, fun e => h1 x q (by rw [e, hk])⟩
   ·rintro (⟨q | q, e⟩ | q)
    ·subst q
     exact absurd hk e
    ·exact .inr q
    ·exact .inl q
  | false =>
   have hk : p.1 ≠ k := fun q => by rw [Gi.2 q] at hk; cases hk
   simp only [cond_false]
   show x ∈ (p.1, p.2, ()) :: Wh (Ru k v r) ↔ (x ∈ (p.1, p.2, ()) :: Wh r ∧ _) ∨ _
   rw [List.mem_cons, List.mem_cons, Zo x h2]
   constructor
   ·rintro (rfl | ⟨q, e⟩ | q)
    ·exact .inl ⟨.inl rfl, hk⟩
    ·exact .inl ⟨.inr q, e⟩
    ·exact .inr q
   ·rintro (⟨q | q, e⟩ | q)
    ·exact .inl q
    ·exact .inr (.inl ⟨q, e⟩)
    ·exact .inr (.inr q)
theorem Aaw {k v : ByteArray} : ∀ {m : Mp}, Dz (Wh m) = true → Dz (Wh (Ru k v m)) = true
 | [], _ => rfl
 | p :: r, h => by
  obtain ⟨h1, h2⟩ := H8.1 (show Dz ((p.1, p.2, ()) :: Wh r) = true from h)
  simp only [Ru]
  cases hk : Y1 p.1 k with
  | true =>
   have hk := Gi.1 hk
   simp only [cond_true]
   exact H8.2 ⟨fun q hq => by rw [← hk]; exact h1 q hq, h2⟩
  | false =>
   have hk : p.1 ≠ k := fun q => by rw [Gi.2 q] at hk; cases hk
   simp only [cond_false]
   refine H8.2 ⟨fun q hq => ?_, Aaw h2⟩
   rcases (Zo q h2).1 hq with ⟨a, _⟩ | rfl
   ·exact h1 q a
   ·exact fun e => hk e.symm
theorem Amg {k : ByteArray} (x : Pr2) : ∀ {m : Mp}, Dz (Wh m) = true → (x ∈ Wh (Y2 k m) ↔ x ∈ Wh m ∧ x.1 ≠ k)
 | [], _ => by simp [Y2, Wh]
 | p :: r, h => by
  obtain ⟨h1, h2⟩ := H8.1 (show Dz ((p.1, p.2, ()) :: Wh r) = true from h)
  simp only [Y2]
  cases hk : Y1 p.1 k with
  | true =>
   have hk := Gi.1 hk
   simp only [cond_true]
   show x ∈ Wh r ↔ x ∈ (p.1, p.2, ()) :: Wh r ∧ _
   rw [List.mem_cons]
   constructor
   ·intro q
    exact ⟨.inr q, fun e => h1 x q (by rw [e, hk])⟩
   ·rintro ⟨q | q, e⟩
    ·subst q
     exact absurd hk e
    ·exact q
  | false =>
   have hk : p.1 ≠ k := fun q => by rw [Gi.2 q] at hk; cases hk
   simp only [cond_false]
   show x ∈ (p.1, p.2, ()) :: Wh (Y2 k r) ↔ x ∈ (p.1, p.2, ()) :: Wh r ∧ _
   rw [List.mem_cons, List.mem_cons, Amg x h2]
   constructor
   ·rintro (rfl | ⟨q, e⟩)
    ·exact ⟨.inl rfl, hk⟩
    ·exact ⟨.inr q, e⟩
   ·rintro ⟨q | q, e⟩
    ·exact .inl q
    ·exact .inr ⟨q, e⟩
theorem Amh {k : ByteArray} : ∀ {m : Mp}, Dz (Wh m) = true → Dz (Wh (Y2 k m)) = true
 | [], _ => rfl
 | p :: r, h => by
  obtain ⟨h1, h2⟩ := H8.1 (show Dz ((p.1, p.2, ()) :: Wh r) = true from h)
  simp only [Y2]
  cases hk : Y1 p.1 k with
  | true => exact h2
  | false =>
   simp only [cond_false]
   exact H8.2 ⟨fun q hq => h1 q ((Amg q h2).1 hq).1, Amh h2⟩
def gtS (a k : ByteArray) : Bool := !(bl a k || a.toList == k.toList)
def M6 (k v : ByteArray) : Bool → List Pr2 → List Pr2
 | d, [] => bif d then [] else [(k, v, ())]
 | d, p :: r => bif !d && gtS p.1 k then (k, v, ()) :: p :: M6 k v true r else bif p.1.toList == k.toList then M6 k v d r else p :: M6 k v d r
def Ami (c : Chg) (l : List Pr2) : List Pr2 := M6 c.1 c.2.1 c.2.2.1 l
theorem A33 {a k : ByteArray} (h : gtS a k = true) : bl k a = true := by
 unfold gtS at h
 rw [Bool.not_eq_true', Bool.or_eq_false_iff] at h
 cases q : bl k a with
 | true => rfl
 | false => exact absurd (Aso h.1 q) (fun e => by rw [e] at h; simp at h)
theorem Tq {k v : ByteArray} (x : Pr2) : ∀ (l : List Pr2) (d : Bool), x ∈ M6 k v d l ↔ (x ∈ l ∧ x.1 ≠ k) ∨ (d = false ∧ x = (k, v, ()))
 | [], d => by cases d <;> simp [M6]
 | p :: r, d => by
  simp only [M6]
  cases hg : !d && gtS p.1 k with
  | true =>
   obtain ⟨hd, hg⟩ := Cj hg
   have hd : d = false := by cases d <;> simp_all
   have hp : p.1 ≠ k := fun e => A32 (A33 hg) e.symm
   subst hd
   simp only [cond_true, List.mem_cons, Tq x r true]
   constructor
   ·rintro (q | q | q | q)
    ·exact .inr ⟨by simp, q⟩
    ·exact .inl ⟨.inl q, by rw [q]; exact hp⟩
    ·exact .inl ⟨.inr q.1, q.2⟩
    ·cases q.1
   ·rintro (⟨q | q, e⟩ | q)
    ·exact .inr (.inl q)
    ·exact .inr (.inr (.inl ⟨q, e⟩))
    ·exact .inl q.2
  | false =>
   simp only [cond_false]
   cases he : p.1.toList == k.toList with
   | true =>
    have he : p.1 = k := Gi.1 he
    simp only [cond_true, List.mem_cons, Tq x r d]
    constructor
    ·rintro (q | q)
     ·exact .inl ⟨.inr q.1, q.2⟩
     ·exact .inr q
    ·rintro (⟨q | q, e⟩ | q)
     ·exact absurd (by rw [q]; exact he) e
     ·exact .inl ⟨q, e⟩
     ·exact .inr q
   | false =>
    have he : p.1 ≠ k := fun q => by rw [show (p.1.toList == k.toList) = true from Gi.2 q] at he; cases he
    simp only [cond_false, List.mem_cons, Tq x r d]
    constructor
    ·rintro (q | q | q)
     ·exact .inl ⟨.inl q, by rw [q]; exact he⟩
     ·exact .inl ⟨.inr q.1, q.2⟩
     ·exact .inr q
    ·rintro (⟨q | q, e⟩ | q)
     ·exact .inl q
     ·exact .inr (.inl ⟨q, e⟩)
     ·exact .inr (.inr q)
theorem m7 {k v : ByteArray} : ∀ (l : List Pr2) (d : Bool), Srt l → Srt (M6 k v d l)
 | [], d, _ => by cases d <;> simp [M6, Srt]
 | p :: r, d, h => by
  obtain ⟨h1, h2⟩ := List.pairwise_cons.1 h
  simp only [M6]
  cases hg : !d && gtS p.1 k with
  | true =>
   obtain ⟨hd, hg⟩ := Cj hg
   have hkp := A33 hg
   simp only [cond_true]
   have hall : ∀ x ∈ M6 k v true r, x ∈ r := fun x hx => by
    rcases (Tq x r true).1 hx with q | q
    ·exact q.1
    ·cases q.1
   refine List.pairwise_cons.2 ⟨fun x hx => ?_, List.pairwise_cons.2 ⟨fun x hx => h1 x (hall x hx), m7 r true h2⟩⟩
   rcases List.mem_cons.1 hx with rfl | q
   ·exact hkp
   ·exact Vh hkp (h1 x (hall x q))
  | false =>
   simp only [cond_false]
   cases he : p.1.toList == k.toList with
   | true => exact m7 r d h2
   | false =>
    simp only [cond_false]
    refine List.pairwise_cons.2 ⟨fun x hx => ?_, m7 r d h2⟩
    rcases (Tq x r d).1 hx with q | ⟨hd, rfl⟩
    ·exact h1 x q.1
    ·subst hd
     have hn : gtS p.1 k = false := by simpa using hg
     unfold gtS at hn
     rw [he, Bool.or_false, Bool.not_eq_false'] at hn
     exact hn
def Aho (c : Chg) (m : Mp) : Mp := bif c.2.2.1 then Y2 c.1 m else Ru c.1 c.2.1 m
def m8 (m : Mp) (l : List Pr2) : Prop := Dz (Wh m) = true ∧ Srt l ∧ ∀ x, x ∈ Wh m ↔ x ∈ l
theorem m8.step {m : Mp} {l : List Pr2} (h : m8 m l) (c : Chg) : m8 (Aho c m) (Ami c l) := by
 obtain ⟨h1, h2, h3⟩ := h
 unfold Aho Ami
 cases hc : c.2.2.1 with
 | true =>
  refine ⟨Amh h1, m7 _ _ h2, fun x => ?_⟩
  simp only [cond_true]
  rw [Amg x h1, Tq, h3]
  simp
 | false =>
  refine ⟨Aaw h1, m7 _ _ h2, fun x => ?_⟩
  simp only [cond_false]
  rw [Zo x h1, Tq, h3]
  simp
theorem m8.sort {m : Mp} {l ys : List Pr2} (h : m8 m l) (hn : Dz ys = true) (hy : ∀ x, x ∈ ys ↔ x ∈ Wh m) : Nh ys = l :=
 Asp (Afj hn) h.2.1 fun x => by rw [m6, hy, h.2.2]
theorem m8.len {m : Mp} {l : List Pr2} (h : m8 m l) : m.length = l.length := by
 have := congrArg List.length (h.sort h.1 fun _ => Iff.rfl)
 rw [Vb] at this
 simpa [Wh] using this
def Nm (l : List Pr2) (b : List Chg) : List Pr2 := Fb (fun _ c l => Ami c l) 0 b l
def Nn (s : Stt) (b : List Chg) : Stt × Int :=
 bif !Aq s then (Ys, 1) else bif !Bg b then (Ys, 1) else bif decide ((Nm s.1 b).length > 100) then (Ys, 2) else ((Nm s.1 b, ()), 0)
theorem m8.fold : ∀ {b : List Chg} {i : Nat} {m : Mp} {l : List Pr2}, m8 m l → m8 (Fb (fun _ c m => Aho c m) i b m) (Fb (fun _ c l => Ami c l) i b l)
 | [], _, _, _, h => h
 | c :: b, i, m, l, h => m8.fold (b := b) (i := i + 1) (h.step c)
def Amj (l : List Pr2) : Mp := Fb (fun _ p m => Ru p.1 p.2.1 m) 0 l []
theorem Ay3 : ∀ {l : List Pr2} {i : Nat} {m : Mp}, Dz (Wh m) = true → Srt l → (∀ p ∈ l, ∀ x ∈ Wh m, x.1 ≠ p.1) →
  Dz (Wh (Fb (fun _ p m => Ru p.1 p.2.1 m) i l m)) = true ∧ ∀ x, x ∈ Wh (Fb (fun _ p m => Ru p.1 p.2.1 m) i l m) ↔ x ∈ Wh m ∨ x ∈ l
 | [], _, m, h, _, _ => ⟨h, fun x => by simp [Fb]⟩
 | p :: r, i, m, h, hs, hk => by
  obtain ⟨s1, s2⟩ := List.pairwise_cons.1 hs
  obtain ⟨k1, k2⟩ := Ay3 (l := r) (i := i + 1) (m := Ru p.1 p.2.1 m) (Aaw h) s2 (fun q hq x hx => by
   rcases (Zo x h).1 hx with ⟨a, _⟩ | rfl
   ·exact hk q (List.mem_cons_of_mem _ hq) x a
   ·exact A32 (s1 q hq))
  refine ⟨k1, fun x => (k2 x).trans ?_⟩
  rw [Zo x h, List.mem_cons]
  constructor
  ·rintro ((⟨a, _⟩ | a) | a)
   ·exact .inl a
   ·exact .inr (.inl a)
   ·exact .inr (.inr a)
  ·rintro (a | a | a)
   ·exact .inl (.inl ⟨a, hk p List.mem_cons_self x a⟩)
   ·exact .inl (.inr a)
   ·exact .inr a
theorem m8.init {l : List Pr2} (h : Srt l) : m8 (Amj l) l := by
 obtain ⟨h1, h2⟩ := Ay3 (l := l) (i := 0) (m := []) rfl h (fun _ _ x hx => by cases hx)
 exact ⟨h1, h, fun x => (h2 x).trans (by simp [Wh])⟩
theorem A15 : ∀ {l : List Pr2}, (∀ i, i + 1 < l.length → bl (l.getD i zP).1 (l.getD (i + 1) zP).1 = true) → Srt l
 | [], _ => List.Pairwise.nil
 | [p], _ => List.pairwise_singleton _ _
 | p :: q :: r, h => by
  have hr : Srt (q :: r) := A15 fun i hi => h (i + 1) (by simp only [List.length_cons] at hi ⊢; omega)
  have h0 : bl p.1 q.1 = true := h 0 (by simp)
  refine List.pairwise_cons.2 ⟨fun x hx => ?_, hr⟩
  rcases List.mem_cons.1 hx with rfl | hx
  ·exact h0
  ·exact Vh h0 ((List.pairwise_cons.1 hr).1 x hx)
theorem Aq9 {s : Stt} (h : Aq s = true) : Srt s.1 := A15 fun i hi => by
 have := l5 (Cj h).2 (i + 1) hi
 unfold Km at this
 obtain ⟨_, this⟩ := Cj this
 obtain ⟨_, this⟩ := Cj this
 simpa using this
theorem Amk {α : Type} : ∀ {l : List α} {i : Nat} {e : α}, l[i]? = some e → (e :: l.eraseIdx i).Perm l
 | [], i, e, h => by simp at h
 | a :: l, 0, e, h => by simp at h; subst h; exact List.Perm.refl _
 | a :: l, i + 1, e, h => by
  simp only [List.getElem?_cons_succ] at h
  simp only [List.eraseIdx_cons_succ]
  exact (List.Perm.swap a e _).trans ((Amk h).cons a)
theorem Xa : ∀ {l : List Pr2}, Dz l = true ↔ (l.map (·.1)).Nodup
 | [] => by simp [Dz]
 | p :: r => by
  rw [H8, List.map_cons, List.nodup_cons, Xa (l := r)]
  constructor
  ·rintro ⟨h1, h2⟩
   exact ⟨fun q => by obtain ⟨x, hx, e⟩ := List.mem_map.1 q; exact h1 x hx e, h2⟩
  ·rintro ⟨h1, h2⟩
   exact ⟨fun q hq e => h1 (List.mem_map.2 ⟨q, hq, e⟩), h2⟩
theorem Zp {l m : List Pr2} (h : l.Perm m) (hn : Dz l = true) : Dz m = true := Xa.2 (((h.map (·.1)).nodup_iff).1 (Xa.1 hn))
theorem A16 {R : Type} (M : Mp) (l0 : List Pr2) (hM : m8 M l0) (hlen : M.length ≤ 100) {D : Type} (mk : Mp → Option (ByteArray × ByteArray) → List Pr2 → D) {left : D → Mp} {stp : D → ByteArray × ByteArray → Mp → Option D} {fin : D → Option R} {res : R}
  (hl : ∀ l c r, left (mk l c r) = l) (hs : ∀ l c r e l', r.length < 1000 → stp (mk l c r) e l' = some (mk l' (some e) (r ++ [(e.1, e.2, ())])))
  (hf : ∀ c r, Dz r = true → r.length ≤ 1000 → Nh r = l0 → fin (mk [] c r) = some res) :
  ∀ (n : Nat) (l : Mp) (c : Option (ByteArray × ByteArray)) (r : List Pr2), l.length = n → (r ++ Wh l).Perm (Wh M) → Aib left stp fin (n + 1) (mk l c r) res
 | 0, l, c, r, hn, hp => by
  have : l = [] := List.length_eq_zero_iff.1 hn
  subst this
  have hp' : r.Perm (Wh M) := by simpa [Wh] using hp
  have hl2 := hp'.length_eq
  refine ⟨fun _ => hf c r (Zp hp'.symm hM.1) ?_ (hM.sort (Zp hp'.symm hM.1) fun x => hp'.mem_iff), fun i e he => ?_⟩
  ·rw [hl2]; simp only [Wh, List.length_map]; omega
  ·rw [hl] at he; simp at he
 | n + 1, l, c, r, hn, hp => by
  refine ⟨fun q => ?_, fun i e he => ?_⟩
  ·rw [hl] at q; rw [q] at hn; cases hn
  ·rw [hl] at he
   have hq := Amk he
   have hr : r.length < 1000 := by
    have := hp.length_eq
    simp only [Wh, List.length_append, List.length_map] at this
    omega
   refine ⟨mk (l.eraseIdx i) (some e) (r ++ [(e.1, e.2, ())]), by rw [hs l c r e _ hr, hl], ?_⟩
   refine A16 M l0 hM hlen mk hl hs hf n (l.eraseIdx i) (some e) (r ++ [(e.1, e.2, ())]) ?_ ?_
   ·have := hq.length_eq
    simp only [List.length_cons] at this
    omega
   ·refine List.Perm.trans ?_ hp
    rw [List.append_assoc]
    exact List.Perm.append_left r (hq.map fun p : ByteArray × ByteArray => ((p.1, p.2, ()) : Pr2))
def R7 (k v : ByteArray) (p : Pr2) (s : Bool × List Pr2) : Bool × List Pr2 :=
 bif !s.1 && gtS p.1 k then (true, bif !(p.1.toList == k.toList) then s.2 ++ [(k, v, ())] ++ [(p.1, p.2.1, ())] else s.2 ++ [(k, v, ())])
 else (s.1, bif !(p.1.toList == k.toList) then s.2 ++ [(p.1, p.2.1, ())] else s.2)
def Avh (k v : ByteArray) (s : Bool × List Pr2) : List Pr2 := bif s.1 then s.2 else s.2 ++ [(k, v, ())]
theorem Ay4 (k v : ByteArray) : ∀ (l : List Pr2) (i : Nat) (s : Bool × List Pr2), Avh k v (Fb (fun _ p s => R7 k v p s) i l s) = s.2 ++ M6 k v s.1 l
 | [], i, s => by
  show Avh k v s = _
  unfold Avh M6
  cases s.1 <;> simp
 | p :: r, i, s => by
  show Avh k v (Fb (fun _ p s => R7 k v p s) (i + 1) r (R7 k v p s)) = _
  rw [Ay4 k v r (i + 1)]
  unfold R7
  simp only [M6]
  cases hg : !s.1 && gtS p.1 k with
  | true =>
   obtain ⟨_, h2⟩ := Cj hg
   have he : (p.1.toList == k.toList) = false := by
    unfold gtS at h2
    rw [Bool.not_eq_true', Bool.or_eq_false_iff] at h2
    exact h2.2
   rw [he]
   simp only [cond_true, Bool.not_false]
   rw [List.append_assoc, List.append_assoc]
   rfl
  | false =>
   simp only [cond_false]
   cases he : p.1.toList == k.toList with
   | true => rfl
   | false =>
    simp only [cond_true, cond_false, Bool.not_false]
    rw [List.append_assoc]
    rfl
theorem Aml (k v : ByteArray) (p : Pr2) (s : Bool × List Pr2) : (R7 k v p s).2.length ≤ s.2.length + 2 := by
 unfold R7
 cases !s.1 && gtS p.1 k <;> cases !(p.1.toList == k.toList) <;> simp
theorem A3g (c : Chg) (l : List Pr2) : (Ami c l).length ≤ l.length + 1 := by
 unfold Ami
 generalize c.2.2.1 = d
 induction l generalizing d with
 | nil => cases d <;> simp [M6]
 | cons p r ih =>
  simp only [M6]
  have ht : ∀ r : List Pr2, (M6 c.1 c.2.1 true r).length ≤ r.length := fun r => by
   induction r with
   | nil => simp [M6]
   | cons q r ih2 =>
    simp only [M6, Bool.not_true, Bool.false_and, cond_false]
    cases q.1.toList == c.1.toList with
    | true => simp only [cond_true, List.length_cons]; omega
    | false => simp only [cond_false, List.length_cons]; omega
  cases !d && gtS p.1 c.1 with
  | true => simp only [cond_true, List.length_cons]; have := ht r; omega
  | false =>
   simp only [cond_false]
   cases p.1.toList == c.1.toList with
   | true => simp only [cond_true, List.length_cons]; have := ih d; omega
   | false => simp only [cond_false, List.length_cons]; have := ih d; omega
theorem Ahp {q : Pr2 → Prop} : ∀ {b : List Chg} {i : Nat} {l : List Pr2}, (∀ x ∈ l, q x) → (∀ c ∈ b, q (c.1, c.2.1, ())) → ∀ x ∈ Fb (fun _ c l => Ami c l) i b l, q x
 | [], _, _, h, _ => h
 | c :: b, i, l, h, hb => Ahp (b := b) (i := i + 1) (fun x hx => by
  rcases (Tq x l c.2.2.1).1 hx with q1 | q1
  ·exact h x q1.1
  ·rw [q1.2]; exact hb c List.mem_cons_self) (fun c' hc' => hb c' (List.mem_cons_of_mem _ hc'))
def A4r (x : Pr2) : Prop := M3 x.1 = true ∧ x.2.1.size ≤ 100
theorem A17 {l : List Pr2} (hl : l.length ≤ 100) (hm : ∀ x ∈ l, A4r x) (hs : Srt l) : Aq (l, ()) = true := by
 unfold Aq
 rw [decide_eq_true (show (l, ()).1.length ≤ 100 from hl), Bool.true_and]
 refine List.all_eq_true.2 fun i hi => ?_
 have hi : i < l.length := by simpa [List.mem_range'] using hi
 have hx : l.getD i zP = l[i] := by simp [hi]
 obtain ⟨h1, h2⟩ := hm l[i] (List.getElem_mem hi)
 show Km l i = true
 unfold Km
 rw [hx, h1, decide_eq_true h2, Bool.true_and, Bool.true_and]
 cases i with
 | zero => rfl
 | succ i =>
  have hx2 : l.getD i zP = l[i] := by simp [show i < l.length by omega]
  have := (List.pairwise_iff_getElem.1 hs) i (i + 1) (by omega) hi (Nat.lt_succ_self i)
  show ((i + 1 == 0) || bl (l.getD (i + 1 - 1) zP).1 l[i + 1].1) = true
  rw [show i + 1 - 1 = i from rfl, hx2, this, Bool.or_true]
theorem A0c {s : Stt} (h : Aq s = true) : ∀ x ∈ s.1, A4r x := fun x hx => by
 obtain ⟨i, hi, rfl⟩ := Ac0 zP hx
 have := l5 (Cj h).2 i hi
 unfold Km at this
 obtain ⟨h1, h2⟩ := Cj this
 exact ⟨h1, of_decide_eq_true (Cj h2).1⟩
theorem A3h {b : List Chg} (h : Bg b = true) : ∀ c ∈ b, A4r (c.1, c.2.1, ()) := fun c hc => by
 obtain ⟨i, hi, rfl⟩ := Ac0 zC hc
 have := (Pw h).2 i hi
 unfold Nk at this
 obtain ⟨h1, h2⟩ := Cj this
 exact ⟨h1, of_decide_eq_true (Cj h2).1⟩
theorem Avi : ∀ {b : List Chg} {i : Nat} {l : List Pr2}, Srt l → Srt (Fb (fun _ c l => Ami c l) i b l)
 | [], _, _, h => h
 | c :: b, i, l, h => Avi (b := b) (i := i + 1) (m7 _ _ h)
theorem Avj (s : Stt) (b : List Chg) : Aq (Nn s b).1 = true := by
 unfold Nn
 cases hv : Aq s with
 | false => rfl
 | true =>
  cases hb : Bg b with
  | false => rfl
  | true =>
   simp only [Bool.not_true, cond_false]
   by_cases q : (Nm s.1 b).length > 100
   ·rw [decide_eq_true q]; rfl
   ·rw [decide_eq_false q]
    exact A17 (by omega) (Ahp (A0c hv) (A3h hb)) (Avi (Aq9 hv))
end Go.Proofs.YteaoabdlcefkhaaGreat.V

