/- Pairs in the order of their keys. No condition. -/
import Derived.Test.YtjoiklaecelalaaQS
namespace Go.Proofs.Ytjoiklaecelalaa.V
open Go Go.Proofs.Ytjoiklaecelalaa.R
set_option linter.unusedVariables false
set_option linter.unusedSimpArgs false
theorem blL_irrefl : ∀ x : List UInt8, Op.bytesLess x x = false
  | [] => rfl
  | a :: x => by simp [Op.bytesLess, blL_irrefl x]
theorem blL_trans : ∀ {x y z : List UInt8}, Op.bytesLess x y = true → Op.bytesLess y z = true → Op.bytesLess x z = true
  | [], [], _, h, _ => by simp [Op.bytesLess] at h
  | [], _ :: _, [], _, k => by simp [Op.bytesLess] at k
  | [], _ :: _, _ :: _, _, _ => rfl
  | _ :: _, [], _, h, _ => by simp [Op.bytesLess] at h
  | _ :: _, _ :: _, [], _, k => by simp [Op.bytesLess] at k
  | a :: x, b :: y, c :: z, h, k => by
    simp only [Op.bytesLess, Bool.or_eq_true, decide_eq_true_eq, Bool.and_eq_true, beq_iff_eq] at h k ⊢
    rcases h with h | ⟨rfl, h⟩
    · rcases k with k | ⟨rfl, k⟩
      · exact .inl (UInt8.lt_trans h k)
      · exact .inl h
    · rcases k with k | ⟨rfl, k⟩
      · exact .inl k
      · exact .inr ⟨rfl, blL_trans h k⟩
theorem blL_tri : ∀ {x y : List UInt8}, Op.bytesLess x y = false → Op.bytesLess y x = false → x = y
  | [], [], _, _ => rfl
  | [], _ :: _, h, _ => by simp [Op.bytesLess] at h
  | _ :: _, [], _, k => by simp [Op.bytesLess] at k
  | a :: x, b :: y, h, k => by
    simp only [Op.bytesLess, Bool.or_eq_false_iff, decide_eq_false_iff_not, Bool.and_eq_false_iff] at h k
    have hab : a = b := by
      apply UInt8.le_antisymm
      · exact UInt8.not_lt.1 k.1
      · exact UInt8.not_lt.1 h.1
    subst hab
    have h2 : Op.bytesLess x y = false := by rcases h.2 with q | q <;> simp_all
    have k2 : Op.bytesLess y x = false := by rcases k.2 with q | q <;> simp_all
    rw [blL_tri h2 k2]
theorem bl_irrefl (a : ByteArray) : bl a a = false := blL_irrefl _
theorem bl_trans {a b c : ByteArray} (h : bl a b = true) (k : bl b c = true) : bl a c = true := blL_trans h k
theorem bl_tri {a b : ByteArray} (h : bl a b = false) (k : bl b a = false) : a = b := keyEq_iff.1 (beq_iff_eq.2 (blL_tri h k))
theorem bl_ne {a b : ByteArray} (h : bl a b = true) : a ≠ b := fun q => by rw [q, bl_irrefl] at h; cases h
theorem bl_asym {a b : ByteArray} (h : bl a b = true) : bl b a = false := by
  cases q : bl b a with
  | false => rfl
  | true => have := bl_trans h q; rw [bl_irrefl] at this; cases this
def Srt (l : List Pr2) : Prop := l.Pairwise fun a b => bl a.1 b.1 = true
theorem srt_ext : ∀ {l m : List Pr2}, Srt l → Srt m → (∀ x, x ∈ l ↔ x ∈ m) → l = m
  | [], [], _, _, _ => rfl
  | [], b :: m, _, _, h => by have := (h b).2 List.mem_cons_self; cases this
  | a :: l, [], _, _, h => by have := (h a).1 List.mem_cons_self; cases this
  | a :: l, b :: m, hl, hm, h => by
    obtain ⟨l1, l2⟩ := List.pairwise_cons.1 hl
    obtain ⟨m1, m2⟩ := List.pairwise_cons.1 hm
    have hab : a = b := by
      rcases List.mem_cons.1 ((h a).1 List.mem_cons_self) with q | q
      · exact q
      · rcases List.mem_cons.1 ((h b).2 List.mem_cons_self) with q2 | q2
        · exact q2.symm
        · have := bl_trans (m1 a q) (l1 b q2)
          rw [bl_irrefl] at this
          cases this
    subst hab
    rw [srt_ext l2 m2 fun x => ⟨fun q => ?_, fun q => ?_⟩]
    · rcases List.mem_cons.1 ((h x).1 (List.mem_cons_of_mem _ q)) with rfl | q2
      · have := l1 x q; rw [bl_irrefl] at this; cases this
      · exact q2
    · rcases List.mem_cons.1 ((h x).2 (List.mem_cons_of_mem _ q)) with rfl | q2
      · have := m1 x q; rw [bl_irrefl] at this; cases this
      · exact q2
/-! ### Sorting -/
theorem mem_insK (p x : Pr2) : ∀ l : List Pr2, x ∈ insK p l ↔ x = p ∨ x ∈ l
  | [] => by simp [insK]
  | q :: r => by
    simp only [insK]
    cases ltK q p with
    | true => simp only [cond_true, List.mem_cons, mem_insK p x r]; constructor <;> (rintro (h | h | h) <;> simp [h])
    | false => simp only [cond_false, List.mem_cons]
theorem mem_sortK (x : Pr2) : ∀ l : List Pr2, x ∈ sortK l ↔ x ∈ l
  | [] => Iff.rfl
  | p :: r => by
    show x ∈ insK p (sortK r) ↔ _
    rw [mem_insK, mem_sortK x r, List.mem_cons]
theorem srt_insK {p : Pr2} : ∀ {l : List Pr2}, Srt l → (∀ q ∈ l, q.1 ≠ p.1) → Srt (insK p l)
  | [], _, _ => List.pairwise_singleton _ _
  | q :: r, hl, hp => by
    obtain ⟨l1, l2⟩ := List.pairwise_cons.1 hl
    simp only [insK]
    cases hq : ltK q p with
    | true =>
      refine List.pairwise_cons.2 ⟨fun x hx => ?_, srt_insK l2 fun y hy => hp y (List.mem_cons_of_mem _ hy)⟩
      rcases (mem_insK p x r).1 hx with rfl | h
      · exact hq
      · exact l1 x h
    | false =>
      have hpq : bl p.1 q.1 = true := by
        cases h : bl p.1 q.1 with
        | true => rfl
        | false => exact absurd (bl_tri hq h) (hp q List.mem_cons_self)
      refine List.pairwise_cons.2 ⟨fun x hx => ?_, hl⟩
      rcases List.mem_cons.1 hx with rfl | h
      · exact hpq
      · exact bl_trans hpq (l1 x h)
theorem nodupK_cons {p : Pr2} {r : List Pr2} : nodupK (p :: r) = true ↔ (∀ q ∈ r, q.1 ≠ p.1) ∧ nodupK r = true := by
  simp only [nodupK, Bool.and_eq_true, Bool.not_eq_true', List.any_eq_false]
  constructor
  · rintro ⟨h1, h2⟩
    exact ⟨fun q hq e => h1 q hq (by rw [e]; simp), h2⟩
  · rintro ⟨h1, h2⟩
    exact ⟨fun q hq e => h1 q hq (keyEq_iff.1 e), h2⟩
theorem srt_sortK : ∀ {l : List Pr2}, nodupK l = true → Srt (sortK l)
  | [], _ => List.Pairwise.nil
  | p :: r, h => by
    obtain ⟨h1, h2⟩ := nodupK_cons.1 h
    exact srt_insK (srt_sortK h2) fun q hq => h1 q ((mem_sortK q r).1 hq)
theorem srt_nodup : ∀ {l : List Pr2}, Srt l → nodupK l = true
  | [], _ => rfl
  | p :: r, h => by
    obtain ⟨h1, h2⟩ := List.pairwise_cons.1 h
    exact nodupK_cons.2 ⟨fun q hq e => bl_ne (h1 q hq) e.symm, srt_nodup h2⟩
/-! ### A map's entries -/
abbrev Mp := List (ByteArray × ByteArray)
def prs (m : Mp) : List Pr2 := m.map fun p => (p.1, p.2, ())
theorem mem_prs {m : Mp} {k v : ByteArray} : (k, v, ()) ∈ prs m ↔ (k, v) ∈ m := by
  unfold prs
  rw [List.mem_map]
  constructor
  · rintro ⟨p, hp, e⟩
    cases e
    exact hp
  · intro h
    exact ⟨_, h, rfl⟩
theorem prs_key {m : Mp} {x : Pr2} (h : x ∈ prs m) : ∃ p ∈ m, p.1 = x.1 := by
  obtain ⟨p, hp, e⟩ := List.mem_map.1 h
  exact ⟨p, hp, by rw [← e]⟩
theorem mem_updL {k v : ByteArray} (x : Pr2) : ∀ {m : Mp}, nodupK (prs m) = true → (x ∈ prs (updL k v m) ↔ (x ∈ prs m ∧ x.1 ≠ k) ∨ x = (k, v, ()))
  | [], _ => by simp [updL, prs]
  | p :: r, h => by
    obtain ⟨h1, h2⟩ := nodupK_cons.1 (show nodupK ((p.1, p.2, ()) :: prs r) = true from h)
    simp only [updL]
    cases hk : keyEq p.1 k with
    | true =>
      have hk := keyEq_iff.1 hk
      simp only [cond_true]
      show x ∈ (k, v, ()) :: prs r ↔ (x ∈ (p.1, p.2, ()) :: prs r ∧ _) ∨ _
      rw [List.mem_cons, List.mem_cons]
      constructor
      · rintro (rfl | q)
        · exact .inr rfl
        · exact .inl ⟨.inr q, fun e => h1 x q (by rw [e, hk])⟩
      · rintro (⟨q | q, e⟩ | q)
        · subst q
          exact absurd hk e
        · exact .inr q
        · exact .inl q
    | false =>
      have hk : p.1 ≠ k := fun q => by rw [keyEq_iff.2 q] at hk; cases hk
      simp only [cond_false]
      show x ∈ (p.1, p.2, ()) :: prs (updL k v r) ↔ (x ∈ (p.1, p.2, ()) :: prs r ∧ _) ∨ _
      rw [List.mem_cons, List.mem_cons, mem_updL x h2]
      constructor
      · rintro (rfl | ⟨q, e⟩ | q)
        · exact .inl ⟨.inl rfl, hk⟩
        · exact .inl ⟨.inr q, e⟩
        · exact .inr q
      · rintro (⟨q | q, e⟩ | q)
        · exact .inl q
        · exact .inr (.inl ⟨q, e⟩)
        · exact .inr (.inr q)
theorem nodup_updL {k v : ByteArray} : ∀ {m : Mp}, nodupK (prs m) = true → nodupK (prs (updL k v m)) = true
  | [], _ => rfl
  | p :: r, h => by
    obtain ⟨h1, h2⟩ := nodupK_cons.1 (show nodupK ((p.1, p.2, ()) :: prs r) = true from h)
    simp only [updL]
    cases hk : keyEq p.1 k with
    | true =>
      have hk := keyEq_iff.1 hk
      simp only [cond_true]
      exact nodupK_cons.2 ⟨fun q hq => by rw [← hk]; exact h1 q hq, h2⟩
    | false =>
      have hk : p.1 ≠ k := fun q => by rw [keyEq_iff.2 q] at hk; cases hk
      simp only [cond_false]
      refine nodupK_cons.2 ⟨fun q hq => ?_, nodup_updL h2⟩
      rcases (mem_updL q h2).1 hq with ⟨a, _⟩ | rfl
      · exact h1 q a
      · exact fun e => hk e.symm
theorem mem_delL {k : ByteArray} (x : Pr2) : ∀ {m : Mp}, nodupK (prs m) = true → (x ∈ prs (delL k m) ↔ x ∈ prs m ∧ x.1 ≠ k)
  | [], _ => by simp [delL, prs]
  | p :: r, h => by
    obtain ⟨h1, h2⟩ := nodupK_cons.1 (show nodupK ((p.1, p.2, ()) :: prs r) = true from h)
    simp only [delL]
    cases hk : keyEq p.1 k with
    | true =>
      have hk := keyEq_iff.1 hk
      simp only [cond_true]
      show x ∈ prs r ↔ x ∈ (p.1, p.2, ()) :: prs r ∧ _
      rw [List.mem_cons]
      constructor
      · intro q
        exact ⟨.inr q, fun e => h1 x q (by rw [e, hk])⟩
      · rintro ⟨q | q, e⟩
        · subst q
          exact absurd hk e
        · exact q
    | false =>
      have hk : p.1 ≠ k := fun q => by rw [keyEq_iff.2 q] at hk; cases hk
      simp only [cond_false]
      show x ∈ (p.1, p.2, ()) :: prs (delL k r) ↔ x ∈ (p.1, p.2, ()) :: prs r ∧ _
      rw [List.mem_cons, List.mem_cons, mem_delL x h2]
      constructor
      · rintro (rfl | ⟨q, e⟩)
        · exact ⟨.inl rfl, hk⟩
        · exact ⟨.inr q, e⟩
      · rintro ⟨q | q, e⟩
        · exact .inl q
        · exact .inr ⟨q, e⟩
theorem nodup_delL {k : ByteArray} : ∀ {m : Mp}, nodupK (prs m) = true → nodupK (prs (delL k m)) = true
  | [], _ => rfl
  | p :: r, h => by
    obtain ⟨h1, h2⟩ := nodupK_cons.1 (show nodupK ((p.1, p.2, ()) :: prs r) = true from h)
    simp only [delL]
    cases hk : keyEq p.1 k with
    | true => exact h2
    | false =>
      simp only [cond_false]
      exact nodupK_cons.2 ⟨fun q hq => h1 q ((mem_delL q h2).1 hq).1, nodup_delL h2⟩
/-! ### One change in a sorted list -/
def gtS (a k : ByteArray) : Bool := !(bl a k || a.toList == k.toList)
def chgGo (k v : ByteArray) : Bool → List Pr2 → List Pr2
  | d, [] => bif d then [] else [(k, v, ())]
  | d, p :: r => bif !d && gtS p.1 k then (k, v, ()) :: p :: chgGo k v true r else bif p.1.toList == k.toList then chgGo k v d r else p :: chgGo k v d r
def chgS (c : Chg) (l : List Pr2) : List Pr2 := chgGo c.1 c.2.1 c.2.2.1 l
theorem gt_bl {a k : ByteArray} (h : gtS a k = true) : bl k a = true := by
  unfold gtS at h
  rw [Bool.not_eq_true', Bool.or_eq_false_iff] at h
  cases q : bl k a with
  | true => rfl
  | false => exact absurd (bl_tri h.1 q) (fun e => by rw [e] at h; simp at h)
theorem mem_chg {k v : ByteArray} (x : Pr2) : ∀ (l : List Pr2) (d : Bool), x ∈ chgGo k v d l ↔ (x ∈ l ∧ x.1 ≠ k) ∨ (d = false ∧ x = (k, v, ()))
  | [], d => by cases d <;> simp [chgGo]
  | p :: r, d => by
    simp only [chgGo]
    cases hg : !d && gtS p.1 k with
    | true =>
      obtain ⟨hd, hg⟩ := and2 hg
      have hd : d = false := by cases d <;> simp_all
      have hp : p.1 ≠ k := fun e => bl_ne (gt_bl hg) e.symm
      subst hd
      simp only [cond_true, List.mem_cons, mem_chg x r true]
      constructor
      · rintro (q | q | q | q)
        · exact .inr ⟨by simp, q⟩
        · exact .inl ⟨.inl q, by rw [q]; exact hp⟩
        · exact .inl ⟨.inr q.1, q.2⟩
        · cases q.1
      · rintro (⟨q | q, e⟩ | q)
        · exact .inr (.inl q)
        · exact .inr (.inr (.inl ⟨q, e⟩))
        · exact .inl q.2
    | false =>
      simp only [cond_false]
      cases he : p.1.toList == k.toList with
      | true =>
        have he : p.1 = k := keyEq_iff.1 he
        simp only [cond_true, List.mem_cons, mem_chg x r d]
        constructor
        · rintro (q | q)
          · exact .inl ⟨.inr q.1, q.2⟩
          · exact .inr q
        · rintro (⟨q | q, e⟩ | q)
          · exact absurd (by rw [q]; exact he) e
          · exact .inl ⟨q, e⟩
          · exact .inr q
      | false =>
        have he : p.1 ≠ k := fun q => by rw [show (p.1.toList == k.toList) = true from keyEq_iff.2 q] at he; cases he
        simp only [cond_false, List.mem_cons, mem_chg x r d]
        constructor
        · rintro (q | q | q)
          · exact .inl ⟨.inl q, by rw [q]; exact he⟩
          · exact .inl ⟨.inr q.1, q.2⟩
          · exact .inr q
        · rintro (⟨q | q, e⟩ | q)
          · exact .inl q
          · exact .inr (.inl ⟨q, e⟩)
          · exact .inr (.inr q)
theorem srt_chg {k v : ByteArray} : ∀ (l : List Pr2) (d : Bool), Srt l → Srt (chgGo k v d l)
  | [], d, _ => by cases d <;> simp [chgGo, Srt]
  | p :: r, d, h => by
    obtain ⟨h1, h2⟩ := List.pairwise_cons.1 h
    simp only [chgGo]
    cases hg : !d && gtS p.1 k with
    | true =>
      obtain ⟨hd, hg⟩ := and2 hg
      have hkp := gt_bl hg
      simp only [cond_true]
      have hall : ∀ x ∈ chgGo k v true r, x ∈ r := fun x hx => by
        rcases (mem_chg x r true).1 hx with q | q
        · exact q.1
        · cases q.1
      refine List.pairwise_cons.2 ⟨fun x hx => ?_, List.pairwise_cons.2 ⟨fun x hx => h1 x (hall x hx), srt_chg r true h2⟩⟩
      rcases List.mem_cons.1 hx with rfl | q
      · exact hkp
      · exact bl_trans hkp (h1 x (hall x q))
    | false =>
      simp only [cond_false]
      cases he : p.1.toList == k.toList with
      | true => exact srt_chg r d h2
      | false =>
        simp only [cond_false]
        refine List.pairwise_cons.2 ⟨fun x hx => ?_, srt_chg r d h2⟩
        rcases (mem_chg x r d).1 hx with q | ⟨hd, rfl⟩
        · exact h1 x q.1
        · subst hd
          have hn : gtS p.1 k = false := by simpa using hg
          unfold gtS at hn
          rw [he, Bool.or_false, Bool.not_eq_false'] at hn
          exact hn
/-! ### Applied -/
def stepM (c : Chg) (m : Mp) : Mp := bif c.2.2.1 then delL c.1 m else updL c.1 c.2.1 m
def Mrel (m : Mp) (l : List Pr2) : Prop := nodupK (prs m) = true ∧ Srt l ∧ ∀ x, x ∈ prs m ↔ x ∈ l
theorem Mrel.step {m : Mp} {l : List Pr2} (h : Mrel m l) (c : Chg) : Mrel (stepM c m) (chgS c l) := by
  obtain ⟨h1, h2, h3⟩ := h
  unfold stepM chgS
  cases hc : c.2.2.1 with
  | true =>
    refine ⟨nodup_delL h1, srt_chg _ _ h2, fun x => ?_⟩
    simp only [cond_true]
    rw [mem_delL x h1, mem_chg, h3]
    simp
  | false =>
    refine ⟨nodup_updL h1, srt_chg _ _ h2, fun x => ?_⟩
    simp only [cond_false]
    rw [mem_updL x h1, mem_chg, h3]
    simp
/-- Any list of the map's entries, sorted. -/
theorem Mrel.sort {m : Mp} {l ys : List Pr2} (h : Mrel m l) (hn : nodupK ys = true) (hy : ∀ x, x ∈ ys ↔ x ∈ prs m) : sortK ys = l :=
  srt_ext (srt_sortK hn) h.2.1 fun x => by rw [mem_sortK, hy, h.2.2]
theorem Mrel.len {m : Mp} {l : List Pr2} (h : Mrel m l) : m.length = l.length := by
  have := congrArg List.length (h.sort h.1 fun _ => Iff.rfl)
  rw [sortK_len] at this
  simpa [prs] using this
def applyGo (l : List Pr2) (b : List Chg) : List Pr2 := foldI (fun _ c l => chgS c l) 0 b l
def applyS (s : Stt) (b : List Chg) : Stt × Int :=
  bif !validState s then (zSs, 1) else bif !validBatch b then (zSs, 1) else bif decide ((applyGo s.1 b).length > 100) then (zSs, 2) else ((applyGo s.1 b, ()), 0)
theorem Mrel.fold : ∀ {b : List Chg} {i : Nat} {m : Mp} {l : List Pr2}, Mrel m l → Mrel (foldI (fun _ c m => stepM c m) i b m) (foldI (fun _ c l => chgS c l) i b l)
  | [], _, _, _, h => h
  | c :: b, i, m, l, h => Mrel.fold (b := b) (i := i + 1) (h.step c)
def mapOfL (l : List Pr2) : Mp := foldI (fun _ p m => updL p.1 p.2.1 m) 0 l []
theorem init_go : ∀ {l : List Pr2} {i : Nat} {m : Mp}, nodupK (prs m) = true → Srt l → (∀ p ∈ l, ∀ x ∈ prs m, x.1 ≠ p.1) →
    nodupK (prs (foldI (fun _ p m => updL p.1 p.2.1 m) i l m)) = true ∧ ∀ x, x ∈ prs (foldI (fun _ p m => updL p.1 p.2.1 m) i l m) ↔ x ∈ prs m ∨ x ∈ l
  | [], _, m, h, _, _ => ⟨h, fun x => by simp [foldI]⟩
  | p :: r, i, m, h, hs, hk => by
    obtain ⟨s1, s2⟩ := List.pairwise_cons.1 hs
    obtain ⟨k1, k2⟩ := init_go (l := r) (i := i + 1) (m := updL p.1 p.2.1 m) (nodup_updL h) s2 (fun q hq x hx => by
      rcases (mem_updL x h).1 hx with ⟨a, _⟩ | rfl
      · exact hk q (List.mem_cons_of_mem _ hq) x a
      · exact bl_ne (s1 q hq))
    refine ⟨k1, fun x => (k2 x).trans ?_⟩
    rw [mem_updL x h, List.mem_cons]
    constructor
    · rintro ((⟨a, _⟩ | a) | a)
      · exact .inl a
      · exact .inr (.inl a)
      · exact .inr (.inr a)
    · rintro (a | a | a)
      · exact .inl (.inl ⟨a, hk p List.mem_cons_self x a⟩)
      · exact .inl (.inr a)
      · exact .inr a
theorem Mrel.init {l : List Pr2} (h : Srt l) : Mrel (mapOfL l) l := by
  obtain ⟨h1, h2⟩ := init_go (l := l) (i := 0) (m := []) rfl h (fun _ _ x hx => by cases hx)
  exact ⟨h1, h, fun x => (h2 x).trans (by simp [prs])⟩
theorem srt_of : ∀ {l : List Pr2}, (∀ i, i + 1 < l.length → bl (l.getD i zP).1 (l.getD (i + 1) zP).1 = true) → Srt l
  | [], _ => List.Pairwise.nil
  | [p], _ => List.pairwise_singleton _ _
  | p :: q :: r, h => by
    have hr : Srt (q :: r) := srt_of fun i hi => h (i + 1) (by simp only [List.length_cons] at hi ⊢; omega)
    have h0 : bl p.1 q.1 = true := h 0 (by simp)
    refine List.pairwise_cons.2 ⟨fun x hx => ?_, hr⟩
    rcases List.mem_cons.1 hx with rfl | hx
    · exact h0
    · exact bl_trans h0 ((List.pairwise_cons.1 hr).1 x hx)
theorem state_srt {s : Stt} (h : validState s = true) : Srt s.1 := srt_of fun i hi => by
  have := all_range (and2 h).2 (i + 1) hi
  unfold okPairAt at this
  obtain ⟨_, this⟩ := and2 this
  obtain ⟨_, this⟩ := and2 this
  simpa using this
/-! ### In whatever order -/
theorem erase_perm {α : Type} : ∀ {l : List α} {i : Nat} {e : α}, l[i]? = some e → (e :: l.eraseIdx i).Perm l
  | [], i, e, h => by simp at h
  | a :: l, 0, e, h => by simp at h; subst h; exact List.Perm.refl _
  | a :: l, i + 1, e, h => by
    simp only [List.getElem?_cons_succ] at h
    simp only [List.eraseIdx_cons_succ]
    exact (List.Perm.swap a e _).trans ((erase_perm h).cons a)
theorem nodupK_iff : ∀ {l : List Pr2}, nodupK l = true ↔ (l.map (·.1)).Nodup
  | [] => by simp [nodupK]
  | p :: r => by
    rw [nodupK_cons, List.map_cons, List.nodup_cons, nodupK_iff (l := r)]
    constructor
    · rintro ⟨h1, h2⟩
      exact ⟨fun q => by obtain ⟨x, hx, e⟩ := List.mem_map.1 q; exact h1 x hx e, h2⟩
    · rintro ⟨h1, h2⟩
      exact ⟨fun q hq e => h1 (List.mem_map.2 ⟨q, hq, e⟩), h2⟩
theorem nodupK_perm {l m : List Pr2} (h : l.Perm m) (hn : nodupK l = true) : nodupK m = true := nodupK_iff.2 (((h.map (·.1)).nodup_iff).1 (nodupK_iff.1 hn))
theorem rng_go {R : Type} (M : Mp) (l0 : List Pr2) (hM : Mrel M l0) (hlen : M.length ≤ 100) {D : Type} (mk : Mp → Option (ByteArray × ByteArray) → List Pr2 → D) {left : D → Mp} {stp : D → ByteArray × ByteArray → Mp → Option D} {fin : D → Option R} {res : R}
    (hl : ∀ l c r, left (mk l c r) = l) (hs : ∀ l c r e l', r.length < 1000 → stp (mk l c r) e l' = some (mk l' (some e) (r ++ [(e.1, e.2, ())])))
    (hf : ∀ c r, nodupK r = true → r.length ≤ 1000 → sortK r = l0 → fin (mk [] c r) = some res) :
    ∀ (n : Nat) (l : Mp) (c : Option (ByteArray × ByteArray)) (r : List Pr2), l.length = n → (r ++ prs l).Perm (prs M) → RngT left stp fin (n + 1) (mk l c r) res
  | 0, l, c, r, hn, hp => by
    have : l = [] := List.length_eq_zero_iff.1 hn
    subst this
    have hp' : r.Perm (prs M) := by simpa [prs] using hp
    have hl2 := hp'.length_eq
    refine ⟨fun _ => hf c r (nodupK_perm hp'.symm hM.1) ?_ (hM.sort (nodupK_perm hp'.symm hM.1) fun x => hp'.mem_iff), fun i e he => ?_⟩
    · rw [hl2]; simp only [prs, List.length_map]; omega
    · rw [hl] at he; simp at he
  | n + 1, l, c, r, hn, hp => by
    refine ⟨fun q => ?_, fun i e he => ?_⟩
    · rw [hl] at q; rw [q] at hn; cases hn
    · rw [hl] at he
      have hq := erase_perm he
      have hr : r.length < 1000 := by
        have := hp.length_eq
        simp only [prs, List.length_append, List.length_map] at this
        omega
      refine ⟨mk (l.eraseIdx i) (some e) (r ++ [(e.1, e.2, ())]), by rw [hs l c r e _ hr, hl], ?_⟩
      refine rng_go M l0 hM hlen mk hl hs hf n (l.eraseIdx i) (some e) (r ++ [(e.1, e.2, ())]) ?_ ?_
      · have := hq.length_eq
        simp only [List.length_cons] at this
        omega
      · refine List.Perm.trans ?_ hp
        rw [List.append_assoc]
        exact List.Perm.append_left r (hq.map fun p : ByteArray × ByteArray => ((p.1, p.2, ()) : Pr2))
/-! ### The document's change -/
def cgStep (k v : ByteArray) (p : Pr2) (s : Bool × List Pr2) : Bool × List Pr2 :=
  bif !s.1 && gtS p.1 k then (true, bif !(p.1.toList == k.toList) then s.2 ++ [(k, v, ())] ++ [(p.1, p.2.1, ())] else s.2 ++ [(k, v, ())])
  else (s.1, bif !(p.1.toList == k.toList) then s.2 ++ [(p.1, p.2.1, ())] else s.2)
def cgEnd (k v : ByteArray) (s : Bool × List Pr2) : List Pr2 := bif s.1 then s.2 else s.2 ++ [(k, v, ())]
theorem cg_fold (k v : ByteArray) : ∀ (l : List Pr2) (i : Nat) (s : Bool × List Pr2), cgEnd k v (foldI (fun _ p s => cgStep k v p s) i l s) = s.2 ++ chgGo k v s.1 l
  | [], i, s => by
    show cgEnd k v s = _
    unfold cgEnd chgGo
    cases s.1 <;> simp
  | p :: r, i, s => by
    show cgEnd k v (foldI (fun _ p s => cgStep k v p s) (i + 1) r (cgStep k v p s)) = _
    rw [cg_fold k v r (i + 1)]
    unfold cgStep
    simp only [chgGo]
    cases hg : !s.1 && gtS p.1 k with
    | true =>
      obtain ⟨_, h2⟩ := and2 hg
      have he : (p.1.toList == k.toList) = false := by
        unfold gtS at h2
        rw [Bool.not_eq_true', Bool.or_eq_false_iff] at h2
        exact h2.2
      rw [he]
      simp only [cond_true, Bool.not_false]
      rw [List.append_assoc, List.append_assoc]
      rfl
    | false =>
      simp only [cond_false]
      cases he : p.1.toList == k.toList with
      | true => rfl
      | false =>
        simp only [cond_true, cond_false, Bool.not_false]
        rw [List.append_assoc]
        rfl
theorem cgStep_len (k v : ByteArray) (p : Pr2) (s : Bool × List Pr2) : (cgStep k v p s).2.length ≤ s.2.length + 2 := by
  unfold cgStep
  cases !s.1 && gtS p.1 k <;> cases !(p.1.toList == k.toList) <;> simp
theorem chg_len (c : Chg) (l : List Pr2) : (chgS c l).length ≤ l.length + 1 := by
  unfold chgS
  generalize c.2.2.1 = d
  induction l generalizing d with
  | nil => cases d <;> simp [chgGo]
  | cons p r ih =>
    simp only [chgGo]
    have ht : ∀ r : List Pr2, (chgGo c.1 c.2.1 true r).length ≤ r.length := fun r => by
      induction r with
      | nil => simp [chgGo]
      | cons q r ih2 =>
        simp only [chgGo, Bool.not_true, Bool.false_and, cond_false]
        cases q.1.toList == c.1.toList with
        | true => simp only [cond_true, List.length_cons]; omega
        | false => simp only [cond_false, List.length_cons]; omega
    cases !d && gtS p.1 c.1 with
    | true => simp only [cond_true, List.length_cons]; have := ht r; omega
    | false =>
      simp only [cond_false]
      cases p.1.toList == c.1.toList with
      | true => simp only [cond_true, List.length_cons]; have := ih d; omega
      | false => simp only [cond_false, List.length_cons]; have := ih d; omega
theorem mem_applyGo {q : Pr2 → Prop} : ∀ {b : List Chg} {i : Nat} {l : List Pr2}, (∀ x ∈ l, q x) → (∀ c ∈ b, q (c.1, c.2.1, ())) → ∀ x ∈ foldI (fun _ c l => chgS c l) i b l, q x
  | [], _, _, h, _ => h
  | c :: b, i, l, h, hb => mem_applyGo (b := b) (i := i + 1) (fun x hx => by
    rcases (mem_chg x l c.2.2.1).1 hx with q1 | q1
    · exact h x q1.1
    · rw [q1.2]; exact hb c List.mem_cons_self) (fun c' hc' => hb c' (List.mem_cons_of_mem _ hc'))
def PrOk (x : Pr2) : Prop := keyOk x.1 = true ∧ x.2.1.size ≤ 100
theorem valid_of {l : List Pr2} (hl : l.length ≤ 100) (hm : ∀ x ∈ l, PrOk x) (hs : Srt l) : validState (l, ()) = true := by
  unfold validState
  rw [decide_eq_true (show (l, ()).1.length ≤ 100 from hl), Bool.true_and]
  refine List.all_eq_true.2 fun i hi => ?_
  have hi : i < l.length := by simpa [List.mem_range'] using hi
  have hx : l.getD i zP = l[i] := by simp [hi]
  obtain ⟨h1, h2⟩ := hm l[i] (List.getElem_mem hi)
  show okPairAt l i = true
  unfold okPairAt
  rw [hx, h1, decide_eq_true h2, Bool.true_and, Bool.true_and]
  cases i with
  | zero => rfl
  | succ i =>
    have hx2 : l.getD i zP = l[i] := by simp [show i < l.length by omega]
    have := (List.pairwise_iff_getElem.1 hs) i (i + 1) (by omega) hi (Nat.lt_succ_self i)
    show ((i + 1 == 0) || bl (l.getD (i + 1 - 1) zP).1 l[i + 1].1) = true
    rw [show i + 1 - 1 = i from rfl, hx2, this, Bool.or_true]
theorem state_mem {s : Stt} (h : validState s = true) : ∀ x ∈ s.1, PrOk x := fun x hx => by
  obtain ⟨i, hi, rfl⟩ := mem_getD zP hx
  have := all_range (and2 h).2 i hi
  unfold okPairAt at this
  obtain ⟨h1, h2⟩ := and2 this
  exact ⟨h1, of_decide_eq_true (and2 h2).1⟩
theorem chg_mem {b : List Chg} (h : validBatch b = true) : ∀ c ∈ b, PrOk (c.1, c.2.1, ()) := fun c hc => by
  obtain ⟨i, hi, rfl⟩ := mem_getD zC hc
  have := (validBatch_at h).2 i hi
  unfold okChg at this
  obtain ⟨h1, h2⟩ := and2 this
  exact ⟨h1, of_decide_eq_true (and2 h2).1⟩
theorem srt_fold : ∀ {b : List Chg} {i : Nat} {l : List Pr2}, Srt l → Srt (foldI (fun _ c l => chgS c l) i b l)
  | [], _, _, h => h
  | c :: b, i, l, h => srt_fold (b := b) (i := i + 1) (srt_chg _ _ h)
/-- What is applied is a state. -/
theorem apply_valid (s : Stt) (b : List Chg) : validState (applyS s b).1 = true := by
  unfold applyS
  cases hv : validState s with
  | false => rfl
  | true =>
    cases hb : validBatch b with
    | false => rfl
    | true =>
      simp only [Bool.not_true, cond_false]
      by_cases q : (applyGo s.1 b).length > 100
      · rw [decide_eq_true q]; rfl
      · rw [decide_eq_false q]
        exact valid_of (by omega) (mem_applyGo (state_mem hv) (chg_mem hb)) (srt_fold (state_srt hv))
theorem apply_good (s : Stt) (b : List Chg) : goodB tSt (applyS s b).1 = true := state_good (apply_valid s b)
/-! ### A batch is committed -/
def commitP (s : Sto) (b : List Chg) : List ByteArray := cutS (formB b) s.2.2.1 (s.2.2.2.1.2.2.1 + s.2.2.2.2.1) s.1
def commitS (s : Sto) (b : List Chg) : Don :=
  bif !validStore s then zDon 1 else bif !validBatch b then zDon 1 else
  bif (applyS s.2.2.2.2.2.2.1 b).2 != 0 then zDon 2 else
  bif decide (roomS (applyS s.2.2.2.2.2.2.1 b).1 s.1 > halvesN s.2.1 - 1) then zDon 3 else
  bif decide (nI (commitP s b).length > halvesN s.2.1 - s.2.2.2.2.1) then zDon 4 else
  (0, (s.1, s.2.1, s.2.2.1, s.2.2.2.1, s.2.2.2.2.1 + nI (commitP s b).length, s.2.2.2.2.2.1 + nI (commitP s b).length, (applyS s.2.2.2.2.2.2.1 b).1, ()), opsGo (baseS s.2.2.2.1.2.1 s.2.1 + s.2.2.2.2.1) (commitP s b), ())
theorem commit_good (s : Sto) (b : List Chg) : goodB tDon (commitS s b) = true := by
  unfold commitS
  cases validStore s with
  | false => rfl
  | true =>
    cases validBatch b with
    | false => rfl
    | true =>
      simp only [Bool.not_true, cond_false]
      cases (applyS s.2.2.2.2.2.2.1 b).2 != 0 with
      | true => rfl
      | false =>
        simp only [cond_false]
        cases decide (roomS (applyS s.2.2.2.2.2.2.1 b).1 s.1 > halvesN s.2.1 - 1) with
        | true => rfl
        | false =>
          simp only [cond_false]
          cases decide (nI (commitP s b).length > halvesN s.2.1 - s.2.2.2.2.1) with
          | true => rfl
          | false =>
            refine done_good (apply_good _ _) (ops_good ?_ (opsGo_good _ _ fun x hx => cutS_size hx))
            have := cut_len b s.2.2.1 (s.2.2.2.1.2.2.1 + s.2.2.2.2.1) s.1
            rw [opsGo_len]
            unfold commitP
            omega
/-- What comes out of Apply on a valid state and batch is 0 or 2. -/
theorem apply_code {s : Stt} {b : List Chg} (hv : validState s = true) (hb : validBatch b = true) : (applyS s b).2 = 0 ∨ (applyS s b).2 = 2 := by
  unfold applyS
  rw [hv, hb]
  simp only [Bool.not_true, cond_false]
  cases decide ((applyGo s.1 b).length > 100) with
  | true => exact .inr rfl
  | false => exact .inl rfl
theorem room_in (s : Stt) (w : Int) : 0 ≤ roomS s w ∧ roomS s w ≤ 600000 := by
  unfold roomS
  cases hw : inB w 1 8 with
  | false => simp
  | true =>
    have h := foldI_mem ([] : List Chg) SumI (fun _ b a => a + pagesN (formB b).size w) (xs := snapS s) (fun i a hi hI => hI.step (Nat.lt_of_lt_of_le hi (snapS_len s)) _ _) (snapS s).length 0 0 (by omega) ⟨by omega, by omega, by omega⟩
    rw [List.drop_zero, foldI_sum] at h
    obtain ⟨h1, h2, h3⟩ := h
    have := snapS_len s
    simp only [cond_true]
    omega
end Go.Proofs.Ytjoiklaecelalaa.V
