/- What the functions that FnPages reaches come to: part 1. No condition. -/
import Derived.Test.YtkfoebbjncngjaaQBase
import Derived.Test.YtkfoebbjncngjaaTLay
import Derived.Test.YtkfoebbjncngjaaProg
import Derived.Test.YtkfoebbjncngjaaQS
import Derived.Test.YtkfoebbjncngjaaQD
import Derived.Test.YtkfoebbjncngjaaQL
import Derived.KernelRfl
namespace Go.Proofs.Ytkfoebbjncngjaa.V
open Go Go.Proofs.Ytkfoebbjncngjaa.R Go.Proofs
set_option maxRecDepth 100000
set_option linter.unusedVariables false
set_option linter.unusedSimpArgs false
def Rg : Sig := ⟨[.rd (.sl (.int .u8))], [none], [.bx 154 (.pair (.sl (.int .u8)) (.pair tI .unit))], [none]⟩
noncomputable def Ee (a0 : List Int) : Option (((((List Int) × Int × Unit) × Unit) × (Unit))) :=
 bif decide (nI a0.length > 2000) then bif decide (2000 ≤ nI a0.length) then some (((List.drop (Int.toNat 0) (List.take (Int.toNat 2000) a0), 0, ()), ()), ()) else none else some (((a0, 0, ()), ()), ())
theorem Jc : ∃ f, f = @Ee := ⟨_, rfl⟩
noncomputable def m_spec_l1Open := Classical.choose Jc
theorem Jd : @m_spec_l1Open = @Ee := Classical.choose_spec Jc
noncomputable def sd_spec_l1Open : SD := ⟨Rg, fun x => m_spec_l1Open x.1⟩
theorem Zj (b : List Int) (h : I3 (.sl (.int .u8)) b) : Ar (m_spec_l1Open b) fun r => Se 0 r.1.1 := by
 obtain ⟨_, h⟩ := h
 have hb : ∀ l : List Int, (∀ x ∈ l, x ∈ b) → l.length ≤ 2000 → rdB l = true := fun l h1 h2 => by
  unfold rdB
  rw [decide_eq_true h2, Bool.true_and, List.all_eq_true]
  intro x hx
  obtain ⟨i, hi, e⟩ := List.getElem_of_mem (h1 x hx)
  have q := h i x (by rw [← e]; exact List.getElem?_eq_getElem hi)
  have q : (Lit.int .u8 x).wf = true := q
  simp only [Lit.wf, Bool.and_eq_true, decide_eq_true_eq] at q
  simp only [Bool.and_eq_true, decide_eq_true_eq]
  have q1 : (0 : Int) ≤ x := q.1
  have q2 : x ≤ 255 := q.2
  omega
 rw [Jd]
 unfold Ee
 refine Ar.cond (fun c => ?_) fun c => ?_
 ·simp only [decide_eq_true_eq, nI] at c
  refine Ar.go (decide_eq_true (by simp only [nI]; omega)) (Ar.some ⟨hb _ (fun x hx => List.mem_of_mem_take (List.mem_of_mem_drop hx)) ?_, Int.le_refl 0, Int.le_refl 0⟩)
  simp only [List.drop_zero, List.length_take, Int.toNat_zero]
  omega
 ·simp only [decide_eq_false_iff_not, nI] at c
  exact Ar.some ⟨hb _ (fun x hx => hx) (by show b.length ≤ 2000; omega), Int.le_refl 0, Int.le_refl 0⟩
theorem Je : Eo Try.prog 62 sd_spec_l1Open :=
 Cl (pat := Ff) [] Ou (Ck (l := []) trivial) trivial Try.func62 (de := fun x => Ee x.1) (fun x r h => by have q : m_spec_l1Open x.1 = some r := h; rw [Jd] at q; exact q) fun _ => by kernel_rfl
def Ms (b : List Int) (p : Int) : Int := IntKind.i64.wrap (IntKind.i64.wrap (IntKind.i64.wrap (IntKind.i64.wrap (IntKind.i64.wrap (b.getD (p.tmod (nI b.length)).toNat 0) * 131) + IntKind.i64.wrap (IntKind.i64.wrap (b.getD ((IntKind.i64.wrap (IntKind.i64.wrap (p * 7) + 3)).tmod (nI b.length)).toNat 0) * 1117)) + IntKind.i64.wrap (p * 29)) + IntKind.i64.wrap (IntKind.i64.wrap (p.tdiv (nI b.length)) * 53))
def Rh (b : List Int) (p n : Int) : Int := bif decide (n < 1) then 0 else bif nI b.length == 0 then 0 else bif decide (p < nI b.length) then (IntKind.i64.wrap (b.getD p.toNat 0)).tmod n else
 (IntKind.i64.wrap (nI (BitVec.ofInt 64 (Ms b p) ^^^ BitVec.ofInt 64 (IntKind.i64.wrap ((Ms b p).tdiv 64))).toNat)).tmod n
theorem Zk : ∃ f : Rd → Int → Option (Int × Rd), f = fun r n => if rdB r.1 = true ∧ 0 ≤ r.2.1 ∧ r.2.1 < 1099511627776 then some (Rh r.1 r.2.1 n, (r.1, r.2.1 + 1, ())) else none := ⟨_, rfl⟩
noncomputable def Aa (r : Rd) (n : Int) : Option (Int × Rd) := Classical.choose Zk r n
theorem Zl (r : Rd) (n : Int) : Aa r n = if rdB r.1 = true ∧ 0 ≤ r.2.1 ∧ r.2.1 < 1099511627776 then some (Rh r.1 r.2.1 n, (r.1, r.2.1 + 1, ())) else none := by
 unfold Aa
 rw [Classical.choose_spec Zk]
def Lc : Sig := ⟨[.bx 154 (.pair (.sl (.int .u8)) (.pair tI .unit)), .rd tI], [none, none], [.rd tI], [none]⟩
noncomputable def sd_spec_l1Rd__pick : SD := ⟨Lc, fun x => (Aa x.1 x.2.1).bind fun r => some ((r.1, ()), (r.2, ()))⟩
noncomputable def Du (a0 : (List Int) × Int × Unit) (a1 : Int) : Option ((((Int) × Unit) × (((List Int) × Int × Unit) × Unit))) :=
 bif decide (a1 < 1) then some ((0, ()), (a0.1, IntKind.i64.wrap (a0.2.1 + 1), ()), ()) else bif nI (List.length a0.1) == 0 then some ((0, ()), (a0.1, IntKind.i64.wrap (a0.2.1 + 1), ()), ()) else bif decide (IntKind.i64.wrap (IntKind.i64.wrap (a0.2.1 + 1) - 1) < nI (List.length a0.1)) then bif decide (0 ≤ IntKind.i64.wrap (IntKind.i64.wrap (a0.2.1 + 1) - 1)) then bif decide (IntKind.i64.wrap (IntKind.i64.wrap (a0.2.1 + 1) - 1) < nI (List.length a0.1)) then bif !decide (a1 = 0) then some (((IntKind.i64.wrap (List.getD a0.1 (IntKind.i64.wrap (IntKind.i64.wrap (a0.2.1 + 1) - 1)).toNat 0)).tmod a1, ()), (a0.1, IntKind.i64.wrap (a0.2.1 + 1), ()), ()) else none else none else none else bif !decide (nI (List.length a0.1) = 0) then bif decide (0 ≤ (IntKind.i64.wrap (IntKind.i64.wrap (a0.2.1 + 1) - 1)).tmod (nI (List.length a0.1))) then bif decide ((IntKind.i64.wrap (IntKind.i64.wrap (a0.2.1 + 1) - 1)).tmod (nI (List.length a0.1)) < nI (List.length a0.1)) then bif !decide (nI (List.length a0.1) = 0) then bif decide (0 ≤ (IntKind.i64.wrap (IntKind.i64.wrap (IntKind.i64.wrap (IntKind.i64.wrap (a0.2.1 + 1) - 1) * 7) + 3)).tmod (nI (List.length a0.1))) then bif decide ((IntKind.i64.wrap (IntKind.i64.wrap (IntKind.i64.wrap (IntKind.i64.wrap (a0.2.1 + 1) - 1) * 7) + 3)).tmod (nI (List.length a0.1)) < nI (List.length a0.1)) then bif !decide (nI (List.length a0.1) = 0) then bif !decide (a1 = 0) then some (((IntKind.i64.wrap (nI (BitVec.ofInt 64 (IntKind.i64.wrap (IntKind.i64.wrap (IntKind.i64.wrap (IntKind.i64.wrap (IntKind.i64.wrap (List.getD a0.1 ((IntKind.i64.wrap (IntKind.i64.wrap (a0.2.1 + 1) - 1)).tmod (nI (List.length a0.1))).toNat 0) * 131) + IntKind.i64.wrap (IntKind.i64.wrap (List.getD a0.1 ((IntKind.i64.wrap (IntKind.i64.wrap (IntKind.i64.wrap (IntKind.i64.wrap (a0.2.1 + 1) - 1) * 7) + 3)).tmod (nI (List.length a0.1))).toNat 0) * 1117)) + IntKind.i64.wrap (IntKind.i64.wrap (IntKind.i64.wrap (a0.2.1 + 1) - 1) * 29)) + IntKind.i64.wrap (IntKind.i64.wrap ((IntKind.i64.wrap (IntKind.i64.wrap (a0.2.1 + 1) - 1)).tdiv (nI (List.length a0.1))) * 53))) ^^^ BitVec.ofInt 64 (IntKind.i64.wrap ((IntKind.i64.wrap (IntKind.i64.wrap (IntKind.i64.wrap (IntKind.i64.wrap (IntKind.i64.wrap (List.getD a0.1 ((IntKind.i64.wrap (IntKind.i64.wrap (a0.2.1 + 1) - 1)).tmod (nI (List.length a0.1))).toNat 0) * 131) + IntKind.i64.wrap (IntKind.i64.wrap (List.getD a0.1 ((IntKind.i64.wrap (IntKind.i64.wrap (IntKind.i64.wrap (IntKind.i64.wrap (a0.2.1 + 1) - 1) * 7) + 3)).tmod (nI (List.length a0.1))).toNat 0) * 1117)) + IntKind.i64.wrap (IntKind.i64.wrap (IntKind.i64.wrap (a0.2.1 + 1) - 1) * 29)) + IntKind.i64.wrap (IntKind.i64.wrap ((IntKind.i64.wrap (IntKind.i64.wrap (a0.2.1 + 1) - 1)).tdiv (nI (List.length a0.1))) * 53))).tdiv 64))).toNat)).tmod a1, ()), (a0.1, IntKind.i64.wrap (a0.2.1 + 1), ()), ()) else none else none else none else none else none else none else none else none
theorem x6 {b : List Int} {p : Int} (hb : rdB b = true) (h0 : 0 ≤ p) (h1 : p < 1099511627776) (hn : 0 < b.length) : 0 ≤ Ms b p ∧ Ms b p < 1125899906842624 := by
 have c1 := Ye hb (p.tmod (nI b.length)).toNat
 have c2 := Ye hb ((IntKind.i64.wrap (IntKind.i64.wrap (p * 7) + 3)).tmod (nI b.length)).toNat
 have c3 : 0 ≤ p.tdiv (nI b.length) ∧ p.tdiv (nI b.length) ≤ p := by
  rw [Int.tdiv_eq_ediv_of_nonneg h0]
  exact ⟨Int.ediv_nonneg h0 (by simp [nI]), Int.ediv_le_self _ h0⟩
 unfold Ms
 generalize b.getD (p.tmod (nI b.length)).toNat 0 = x at *
 generalize b.getD ((IntKind.i64.wrap (IntKind.i64.wrap (p * 7) + 3)).tmod (nI b.length)).toNat 0 = y at *
 generalize p.tdiv (nI b.length) = z at *
 rw [Ai (n := x) (by omega) (by omega), Ai (n := y) (by omega) (by omega), Ai (n := z) (by omega) (by omega), Ai (n := y * 1117) (by omega) (by omega), Ai (n := x * 131) (by omega) (by omega), Ai (n := p * 29) (by omega) (by omega), Ai (n := z * 53) (by omega) (by omega), Ai (n := x * 131 + y * 1117) (by omega) (by omega), Ai (n := x * 131 + y * 1117 + p * 29) (by omega) (by omega), Ai (by omega) (by omega)]
 omega
theorem x7 {b : List Int} {p n : Int} (hb : rdB b = true) (h0 : 0 ≤ p) (h1 : p < 1099511627776) : 0 ≤ Rh b p n ∧ (1 ≤ n → Rh b p n < n) ∧ (n < 1 → Rh b p n = 0) := by
 unfold Rh
 by_cases hn : n < 1
 ·rw [decide_eq_true hn]
  exact ⟨Int.le_refl 0, fun q => by omega, fun _ => rfl⟩
 ·rw [decide_eq_false hn, cond_false]
  refine ⟨?_, fun _ => ?_, fun q => absurd q hn⟩
  all_goals
   by_cases hl : b.length = 0
   ·rw [show (nI b.length == 0) = true by simp [nI, hl]]
    simp only [cond_true]
    omega
   ·rw [show (nI b.length == 0) = false by simp only [nI, beq_eq_false_iff_ne]; omega, cond_false]
    by_cases hp : p < nI b.length
    ·rw [decide_eq_true hp, cond_true]
     have c := Ye hb p.toNat
     rw [Ai (by omega) (by omega)]
     have := Pw (x := b.getD p.toNat 0) (n := n) c.1 (by omega)
     omega
    ·rw [decide_eq_false hp, cond_false]
     obtain ⟨x0, x1⟩ := x6 hb h0 h1 (by omega)
     have t : 0 ≤ (Ms b p).tdiv 64 ∧ (Ms b p).tdiv 64 ≤ Ms b p := by
      rw [Int.tdiv_eq_ediv_of_nonneg x0]
      omega
     rw [Ai (n := (Ms b p).tdiv 64) (by omega) (by omega)]
     have := Pw (n := n) (c9 x0 (by omega) t.1 (by omega)) (by omega)
     omega
theorem Aa8 {k : Nat} {r : Rd} (n : Int) (h : Se k r) (hk : k < 1099511627776) : ∃ v, Aa r n = some (v, (r.1, r.2.1 + 1, ())) ∧ 0 ≤ v ∧ (1 ≤ n → v < n) ∧ (n < 1 → v = 0) ∧ Se (k + 1) (r.1, r.2.1 + 1, ()) := by
 obtain ⟨h1, h2, h3⟩ := h
 have hn := x7 (n := n) h1 h2 (by omega)
 exact ⟨_, by rw [Zl, if_pos ⟨h1, h2, by omega⟩], hn.1, hn.2.1, hn.2.2, h1, by show 0 ≤ r.2.1 + 1; omega, by show r.2.1 + 1 ≤ ((k + 1 : Nat) : Int); omega⟩
theorem Ax {α : Type} {k : Nat} {r : Rd} {n : Int} {f : (Int × Unit) × Rd × Unit → Option α} {S : α → Prop} (h : Se k r) (hk : k < 1099511627776) (hn : 1 ≤ n) (q : ∀ v r', 0 ≤ v → v < n → Se (k + 1) r' → Ar (f ((v, ()), r', ())) S) :
  Ar (((Aa r n).bind fun val => some ((val.1, ()), val.2, ())).bind f) S := by
 obtain ⟨v, e, v0, v1, _, h'⟩ := Aa8 n h hk
 rw [e]
 exact q v _ v0 (v1 hn) h'
theorem Ld (a0 : (List Int) × Int × Unit) (a1 : Int) r (h : Aa a0 a1 = some r) : Du a0 a1 = some ((r.1, ()), (r.2, ())) := by
 rw [Zl] at h
 split at h
 ·rename_i hc
  obtain ⟨hb, h0, h1⟩ := hc
  cases h
  unfold Du
  have e1 : IntKind.i64.wrap (a0.2.1 + 1) = a0.2.1 + 1 := Ai (by omega) (by omega)
  have e2 : IntKind.i64.wrap (a0.2.1 + 1 - 1) = a0.2.1 := by rw [Ai (by omega) (by omega)]; omega
  simp only [e1, e2]
  unfold Rh
  by_cases hn : a1 < 1
  ·rw [decide_eq_true hn]; rfl
  ·rw [decide_eq_false hn]
   have hn0 : decide (a1 = 0) = false := decide_eq_false (by omega)
   simp only [cond_false]
   by_cases hl : a0.1.length = 0
   ·rw [show (nI a0.1.length == 0) = true by simp [nI, hl]]; rfl
   ·rw [show (nI a0.1.length == 0) = false by simp only [nI, beq_eq_false_iff_ne]; omega]
    have hl0 : decide (nI a0.1.length = 0) = false := decide_eq_false (by simp only [nI]; omega)
    simp only [cond_false]
    by_cases hp : a0.2.1 < nI a0.1.length
    ·rw [decide_eq_true hp, decide_eq_true h0, hn0]; rfl
    ·have t1 := Pw (n := nI a0.1.length) h0 (by simp only [nI]; omega)
     have w7 : IntKind.i64.wrap (IntKind.i64.wrap (a0.2.1 * 7) + 3) = a0.2.1 * 7 + 3 := by rw [Ai (n := a0.2.1 * 7) (by omega) (by omega), Ai (by omega) (by omega)]
     have t2 := Pw (x := a0.2.1 * 7 + 3) (n := nI a0.1.length) (by omega) (by simp only [nI]; omega)
     rw [← w7] at t2
     rw [decide_eq_false hp, hl0, hn0, decide_eq_true t1.1, decide_eq_true t1.2, decide_eq_true t2.1, decide_eq_true t2.2]
     rfl
 ·cases h
theorem Bl : Eo Try.prog 64 sd_spec_l1Rd__pick :=
 Cl (pat := Ff) [] Ou (Ck (l := []) trivial) trivial Try.func64 (de := fun x => Du x.1 x.2.1) (fun x r h => H9 (Ld x.1 x.2.1) h) fun _ => by kernel_rfl
def C8 (v0 : ByteArray) (v1 : Int) (v5 : ByteArray) : Nat := v1.toNat + 1
def Ri : Sig := ⟨[.rd .str, .rd tI], [none, none], [.rd .str], [none]⟩
noncomputable def ta_spec_l1Many : Tb := tb []
def pa_spec_l1Many : Nat → Pat × (Nat → Pat) := Sc [(3, ⟨[], [(0, .lf (.d .str)), (1, .lf (.d tI)), (5, .lf (.d .str))], []⟩, [(2, ⟨[], [(5, .lf (.d .str))], []⟩)])]
noncomputable def co_spec_l1Many_3 : Code := (Bi (D9 Try.f73)).getD 0 .skip
noncomputable def C9 {R : Type}  (NX : ((ByteArray) × (Int) × (ByteArray) × Unit) → Option R) (X2 : ((ByteArray) × Unit) → Option R) (v0 : ByteArray) (v1 : Int) (v5 : ByteArray) : Option R :=
 bif decide (v1 > 0) then bif v1.tmod 2 == 1 then bif decide (v5.size + v0.size ≤ 9223372036854775807) then bif decide (v0.size + v0.size ≤ 9223372036854775807) then NX (v0 ++ v0, IntKind.i64.wrap (v1.tdiv 2), v5 ++ v0, ()) else none else none else bif decide (v0.size + v0.size ≤ 9223372036854775807) then NX (v0 ++ v0, IntKind.i64.wrap (v1.tdiv 2), v5, ()) else none else X2 (v5, ())
noncomputable def Bs : Nat → (ByteArray) → (Int) → (ByteArray) →  Option ((ByteArray) × Unit)
 | 0, _, _, _ => none
 | m + 1, v0, v1, v5 => C9  (fun d => Bs m d.1 d.2.1 d.2.2.1) (fun d => some (d)) v0 v1 v5
noncomputable def Ef (a0 : ByteArray) (a1 : Int) : Option ((((ByteArray) × Unit) × (Unit))) :=
 ((fun d => Bs (C8 d.1 d.2.1 d.2.2.1) d.1 d.2.1 d.2.2.1) (a0, a1, ByteArray.mk #[], ())).bind fun val => some (val, ())
theorem Jf : ∃ f, f = @Ef := ⟨_, rfl⟩
noncomputable def m_spec_l1Many := Classical.choose Jf
theorem Jg : @m_spec_l1Many = @Ef := Classical.choose_spec Jf
noncomputable def sd_spec_l1Many : SD := ⟨Ri, fun x => m_spec_l1Many x.1 x.2.1⟩
theorem Nx : ∀ (m n : Nat) (v0 v5 : ByteArray), n < m → n < 1099511627776 → v5.size + v0.size * n ≤ 1099511627776 → Ar (Bs m v0 n v5) fun r => r.1.size = v5.size + v0.size * n
 | 0, n, v0, v5, h, _, _ => by omega
 | m + 1, n, v0, v5, h, hn, ht => by
  simp only [Bs, C9]
  refine Ar.cond (fun c => ?_) fun c => ?_
  ·have hp : 0 < n := by simpa using c
   have e : v0.size * n = 2 * (v0.size * (n / 2)) + v0.size * (n % 2) := by
    conv => lhs; rw [← Nat.div_add_mod n 2]
    rw [Nat.mul_add, Nat.mul_left_comm]
   have e' : (v0.size + v0.size) * (n / 2) = 2 * (v0.size * (n / 2)) := by rw [Nat.add_mul]; omega
   have hle : v0.size ≤ v0.size * n := Nat.le_mul_of_pos_right _ hp
   have e1 : IntKind.i64.wrap (Int.tdiv (n : Int) 2) = ((n / 2 : Nat) : Int) := by
    rw [Int.tdiv_eq_ediv_of_nonneg (by omega), Ai (by omega) (by omega)]
    rfl
   have e2 : (Int.tmod (n : Int) 2 == 1) = decide (n % 2 = 1) := by
    rw [Int.tmod_eq_emod_of_nonneg (by omega)]
    by_cases q : n % 2 = 1
    ·rw [decide_eq_true q]; simp; omega
    ·rw [decide_eq_false q]; simp; omega
   rw [e1, e2]
   refine Ar.cond (fun c => ?_) fun c => ?_
   ·rw [of_decide_eq_true c, Nat.mul_one] at e
    refine Ar.go (decide_eq_true (by omega)) (Ar.go (decide_eq_true (by omega)) ?_)
    refine (Nx m (n / 2) (v0 ++ v0) (v5 ++ v0) (by omega) (by omega) (by simp only [ByteArray.size_append]; omega)).mono fun r q => ?_
    simp only [ByteArray.size_append] at q
    omega
   ·have c := of_decide_eq_false c
    rw [show n % 2 = 0 by omega, Nat.mul_zero] at e
    refine Ar.go (decide_eq_true (by omega)) ?_
    refine (Nx m (n / 2) (v0 ++ v0) v5 (by omega) (by omega) (by simp only [ByteArray.size_append]; omega)).mono fun r q => ?_
    simp only [ByteArray.size_append] at q
    omega
  ·have : n = 0 := by simpa using c
   subst this
   exact Ar.some (by simp)
theorem U5 (s : ByteArray) (n : Int) (h0 : 0 ≤ n) (h1 : n ≤ 10000) (hs : s.size ≤ 10000) : Ar (m_spec_l1Many s n) fun r => r.1.1.size = s.size * n.toNat := by
 obtain ⟨k, rfl⟩ : ∃ k : Nat, n = (k : Int) := ⟨n.toNat, by omega⟩
 rw [Jg]
 unfold Ef
 have hk : s.size * k ≤ 10000 * 10000 := Nat.mul_le_mul hs (by omega)
 refine Ar.bind (Nx _ k s (ByteArray.mk #[]) (by simp [C8]) (by omega) (by show 0 + s.size * k ≤ _; omega)) fun r q => Ar.some ?_
 rw [Int.toNat_natCast]
 exact q.trans (Nat.zero_add _)
noncomputable def Hj {R : Type} (k : Kt R) := (y6 (pa_spec_l1Many 3) (.exit 0) 2 k)
noncomputable def Kg {R : Type} : Lt R pa_spec_l1Many := (Sb (pat := pa_spec_l1Many) 3 (fun d k => (Bs (C8 d.1 d.2.1 d.2.2.1) d.1 d.2.1 d.2.2.1).bind (Hj k)) Ou)
theorem Jh : A7 Try.prog ta_spec_l1Many := Ck trivial
theorem Ny {R : Type} : Cn Try.prog R 20 0 pa_spec_l1Many Kg co_spec_l1Many_3 :=
 Ke (cfg := ⟨ta_spec_l1Many, 0, 20, pa_spec_l1Many⟩) 3 [] (fun NX X d => C9  NX X d.1 d.2.1 d.2.2.1) (fun m d => Bs m d.1 d.2.1 d.2.2.1) (fun d => C8 d.1 d.2.1 d.2.2.1) Hj Jh trivial (fun f NX d => by unfold C9; simp only [Ct, De, B9, Option.bind_assoc, Option.bind_none, Option.bind_some]) (fun _ _ _ => by kernel_rfl)
theorem Gb : Eo Try.prog 73 sd_spec_l1Many :=
 Cl (pat := pa_spec_l1Many) [co_spec_l1Many_3] Kg Jh ⟨Ny, trivial⟩ Try.func73 (de := fun x => Ef x.1 x.2.1) (fun x r h => by have q : m_spec_l1Many x.1 x.2.1 = some r := h; rw [Jg] at q; exact q) fun _ => by kernel_rfl
def J7 : Sig := ⟨[.bx 154 (.pair (.sl (.int .u8)) (.pair tI .unit))], [none], [.rd tI], [none]⟩
noncomputable def Cf (a0 : (List Int) × Int × Unit) : Option ((((Int) × Unit) × (((List Int) × Int × Unit) × Unit))) :=
 ((Aa a0 6).bind fun val => some ((val.1, ()), val.2, ())).bind fun val => bif decide (0 ≤ val.1.1) then bif decide (val.1.1 < nI [8, 8, 4, 2, 1, 1].length) then some (([8, 8, 4, 2, 1, 1].getD (Int.toNat val.1.1) 0, ()), val.2) else none else none
theorem Fo : ∃ f, f = @Cf := ⟨_, rfl⟩
noncomputable def m_spec_l1DrawWidth := Classical.choose Fo
theorem Fp : @m_spec_l1DrawWidth = @Cf := Classical.choose_spec Fo
noncomputable def sd_spec_l1DrawWidth : SD := ⟨J7, fun x => m_spec_l1DrawWidth x.1⟩
theorem x8 {k : Nat} {r : Rd} (h : Se k r) (hk : k < 1099511627776) : Ar (m_spec_l1DrawWidth r) fun q => (1 ≤ q.1.1 ∧ q.1.1 ≤ 8) ∧ Se (k + 1) q.2.1 := by
 rw [Fp]
 unfold Cf
 refine Ax h hk (by omega) fun v r' v0 v1 h' => ?_
 refine Ar.go (decide_eq_true v0) (Ar.go (decide_eq_true v1) (Ar.some ⟨?_, h'⟩))
 exact w6 (Q := fun x : Int => 1 ≤ x ∧ x ≤ 8) (by decide) v0 v1
theorem J8 : Eo Try.prog 75 sd_spec_l1DrawWidth :=
 Cl (pat := Ff) [] Ou (Ck (l := [(64, sd_spec_l1Rd__pick)]) ⟨Bl, trivial⟩) trivial Try.func75 (de := fun x => Cf x.1) (fun x r h => by have q : m_spec_l1DrawWidth x.1 = some r := h; rw [Fp] at q; exact q) fun _ => by kernel_rfl
def Rj : Sig := ⟨[.rd tI], [none], [.rd tI], [none]⟩
noncomputable def Ji (a0 : Int) : Option ((((Int) × Unit) × (Unit))) :=
 some ((IntKind.i64.wrap (IntKind.i64.wrap (64 - a0) - 8), ()), ())
noncomputable def sd_spec_l1Part : SD := ⟨Rj, fun x => Ji x.1⟩
theorem Eg : Eo Try.prog 77 sd_spec_l1Part :=
 Cl (pat := Ff) [] Ou (Ck (l := []) trivial) trivial Try.func77 (de := fun x => Ji x.1) (fun x r h => h) fun _ => by kernel_rfl
def B1 (v3 : ByteArray) (v4 : Int) (b0 : (List Int) × Int × Unit) : Nat := v4.toNat + 1
def Le : Sig := ⟨[.bx 154 (.pair (.sl (.int .u8)) (.pair tI .unit))], [none], [.rd .str], [none]⟩
noncomputable def ta_spec_l1DrawText : Tb := tb [(64, sd_spec_l1Rd__pick), (73, sd_spec_l1Many)]
def pa_spec_l1DrawText : Nat → Pat × (Nat → Pat) := Sc [(13, ⟨[], [(0, .lf (.ptr 0 0)), (3, .lf (.d .str)), (4, .lf (.d tI))], [.box 154 [.d (.pair (.sl (.int .u8)) (.pair tI .unit))]]⟩, [(3, ⟨[], [(3, .lf (.d .str))], [.box 154 [.d (.pair (.sl (.int .u8)) (.pair tI .unit))]]⟩)])]
noncomputable def co_spec_l1DrawText_13 : Code := (Bi (D9 Try.f117)).getD 0 .skip
noncomputable def B2 {R : Type}  (NX : ((ByteArray) × (Int) × ((List Int) × Int × Unit) × Unit) → Option R) (X3 : ((ByteArray) × ((List Int) × Int × Unit) × Unit) → Option R) (v3 : ByteArray) (v4 : Int) (b0 : (List Int) × Int × Unit) : Option R :=
 bif decide (v4 > 0) then ((Aa b0 4).bind fun val => some ((val.1, ()), val.2, ())).bind fun val => bif decide (0 ≤ val.1.1) then bif decide (val.1.1 ≤ nI (ByteArray.mk #[97, 98, 99, 100]).size) then bif decide (1 ≤ nI (Ac (ByteArray.mk #[97, 98, 99, 100]) val.1.1 (nI (ByteArray.mk #[97, 98, 99, 100]).size)).size) then bif decide (v3.size + (Ac (Ac (ByteArray.mk #[97, 98, 99, 100]) val.1.1 (nI (ByteArray.mk #[97, 98, 99, 100]).size)) 0 1).size ≤ 9223372036854775807) then NX (v3 ++ Ac (Ac (ByteArray.mk #[97, 98, 99, 100]) val.1.1 (nI (ByteArray.mk #[97, 98, 99, 100]).size)) 0 1, IntKind.i64.wrap (v4 - 1), val.2) else none else none else none else none else X3 (v3, b0, ())
noncomputable def A5 : Nat → (ByteArray) → (Int) → ((List Int) × Int × Unit) →  Option ((ByteArray) × ((List Int) × Int × Unit) × Unit)
 | 0, _, _, _ => none
 | m + 1, v3, v4, b0 => B2  (fun d => A5 m d.1 d.2.1 d.2.2.1) (fun d => some (d)) v3 v4 b0
noncomputable def Co (a0 : (List Int) × Int × Unit) : Option ((((ByteArray) × Unit) × (((List Int) × Int × Unit) × Unit))) :=
 ((Aa a0 8).bind fun val => some ((val.1, ()), val.2, ())).bind fun val => bif val.1.1 == 0 then some ((ByteArray.mk #[], ()), val.2) else bif val.1.1 == 1 then some ((ByteArray.mk #[0, 255], ()), val.2) else bif val.1.1 == 2 then ((Aa val.2.1 21).bind fun val => some ((val.1, ()), val.2, ())).bind fun val => (m_spec_l1Many (ByteArray.mk #[108, 111, 110, 103]) (IntKind.i64.wrap (5 + val.1.1))).bind fun val_1 => some (val_1.1, val.2) else bif val.1.1 == 3 then some ((ByteArray.mk #[45], ()), val.2) else ((Aa val.2.1 4).bind fun val => some ((val.1, ()), val.2, ())).bind fun val => ((fun d => A5 (B1 d.1 d.2.1 d.2.2.1) d.1 d.2.1 d.2.2.1) (ByteArray.mk #[], IntKind.i64.wrap (1 + val.1.1), val.2)).bind fun val => some ((val.1, ()), val.2)
theorem Gc : ∃ f, f = @Co := ⟨_, rfl⟩
noncomputable def m_spec_l1DrawText := Classical.choose Gc
theorem Gd : @m_spec_l1DrawText = @Co := Classical.choose_spec Gc
noncomputable def sd_spec_l1DrawText : SD := ⟨Le, fun x => m_spec_l1DrawText x.1⟩
theorem Tr : ∀ (m n : Nat) (k : Nat) (v3 : ByteArray) (r : Rd), n < m → n ≤ 10 → v3.size + n ≤ 100 → Se k r → k + n < 1099511627776 → Ar (A5 m v3 n r) fun q => q.1.size ≤ 100 ∧ Se (k + n) q.2.1
 | 0, n, k, v3, r, h, _, _, _, _ => by omega
 | m + 1, n, k, v3, r, h, hn, hs, hr, hk => by
  simp only [A5, B2]
  refine Ar.cond (fun c => ?_) fun c => ?_
  ·have hp : 0 < n := by simpa using c
   refine Ax hr (by omega) (by omega) fun v r' v0 v1 h' => ?_
   have sz : ((ByteArray.mk #[97, 98, 99, 100]).size : Int) = 4 := rfl
   have e1 := Ft (s := ByteArray.mk #[97, 98, 99, 100]) v0 (show v ≤ nI (ByteArray.mk #[97, 98, 99, 100]).size by simp only [nI, sz]; omega) (Int.le_refl _)
   have e2 := Ft (s := Ac (ByteArray.mk #[97, 98, 99, 100]) v (nI (ByteArray.mk #[97, 98, 99, 100]).size)) (i := 0) (j := 1) (by omega) (by omega) (by simp only [nI, sz] at e1 ⊢; omega)
   refine Ar.go (decide_eq_true v0) (Ar.go (decide_eq_true (show v ≤ _ by simp only [nI, sz]; omega)) (Ar.go (decide_eq_true (show 1 ≤ nI (Ac (ByteArray.mk #[97, 98, 99, 100]) v (nI (ByteArray.mk #[97, 98, 99, 100]).size)).size by simp only [nI, sz] at e1 ⊢; omega)) (Ar.go (decide_eq_true (show v3.size + (Ac (Ac (ByteArray.mk #[97, 98, 99, 100]) v (nI (ByteArray.mk #[97, 98, 99, 100]).size)) 0 1).size ≤ _ by omega)) ?_)))
   have ew : IntKind.i64.wrap ((n : Int) - 1) = ((n - 1 : Nat) : Int) := by rw [Ai (by omega) (by omega)]; omega
   rw [ew]
   refine (Tr m (n - 1) (k + 1) (v3 ++ Ac (Ac (ByteArray.mk #[97, 98, 99, 100]) v (nI (ByteArray.mk #[97, 98, 99, 100]).size)) 0 1) r' (by omega) (by omega) (by rw [ByteArray.size_append]; omega) h' (by omega)).mono fun q hq => ⟨hq.1, ?_⟩
   rw [show k + 1 + (n - 1) = k + n by omega] at hq
   exact hq.2
  ·have : n = 0 := by simpa using c
   subst this
   exact Ar.some ⟨by show v3.size ≤ 100; omega, hr⟩
theorem Aa9 {k : Nat} {r : Rd} (h : Se k r) (hk : k + 10 < 1099511627776) : Ar (m_spec_l1DrawText r) fun q => q.1.1.size ≤ 100 ∧ Se (k + 10) q.2.1 := by
 rw [Gd]
 unfold Co
 refine Ax h (by omega) (by omega) fun v r' v0 v1 h1 => ?_
 refine Ar.cond (fun _ => Ar.some ⟨Nat.zero_le _, h1.mono (by omega)⟩) fun _ => Ar.cond (fun _ => Ar.some ⟨by show 2 ≤ 100; omega, h1.mono (by omega)⟩) fun _ => Ar.cond (fun _ => ?_) fun _ => Ar.cond (fun _ => Ar.some ⟨by show 1 ≤ 100; omega, h1.mono (by omega)⟩) fun _ => ?_
 ·dsimp only
  refine Ax h1 (by omega) (by omega) fun v2 r2 w0 w1 h2 => ?_
  dsimp only
  have ew : IntKind.i64.wrap (5 + v2) = 5 + v2 := Ai (by omega) (by omega)
  simp only [ew]
  refine Ar.bind (U5 (ByteArray.mk #[108, 111, 110, 103]) (5 + v2) (by omega) (by omega) (by decide)) fun q hq => Ar.some ⟨?_, h2.mono (by omega)⟩
  show q.1.1.size ≤ 100
  rw [hq]
  show 4 * _ ≤ 100
  omega
 ·dsimp only
  refine Ax h1 (by omega) (by omega) fun v2 r2 w0 w1 h2 => ?_
  dsimp only
  have ew : IntKind.i64.wrap (1 + v2) = ((1 + v2).toNat : Int) := by rw [Ai (by omega) (by omega)]; omega
  simp only [ew]
  refine Ar.bind (Tr _ (1 + v2).toNat (k + 2) (ByteArray.mk #[]) r2 (by simp only [B1]; omega) (by omega) (by show 0 + _ ≤ 100; omega) h2 (by omega)) fun q hq => Ar.some ⟨hq.1, hq.2.mono (by omega)⟩
noncomputable def Es {R : Type} (k : Kt R) := (y6 (pa_spec_l1DrawText 13) (.exit 1) 3 k)
noncomputable def Gy {R : Type} : Lt R pa_spec_l1DrawText := (Sb (pat := pa_spec_l1DrawText) 13 (fun d k => (A5 (B1 d.1 d.2.1 d.2.2.1) d.1 d.2.1 d.2.2.1).bind (Es k)) Ou)
theorem Ge : A7 Try.prog ta_spec_l1DrawText := Ck ⟨Bl, Gb, trivial⟩
theorem Ii {R : Type} : Cn Try.prog R 33 1 pa_spec_l1DrawText Gy co_spec_l1DrawText_13 :=
 Ke (cfg := ⟨ta_spec_l1DrawText, 1, 33, pa_spec_l1DrawText⟩) 13 [] (fun NX X d => B2  NX X d.1 d.2.1 d.2.2.1) (fun m d => A5 m d.1 d.2.1 d.2.2.1) (fun d => B1 d.1 d.2.1 d.2.2.1) Es Ge trivial (fun f NX d => by unfold B2; simp only [Ct, De, B9, Option.bind_assoc, Option.bind_none, Option.bind_some]) (fun _ _ _ => by kernel_rfl)
theorem Lg : Eo Try.prog 117 sd_spec_l1DrawText :=
 Cl (pat := pa_spec_l1DrawText) [co_spec_l1DrawText_13] Gy Ge ⟨Ii, trivial⟩ Try.func117 (de := fun x => Co x.1) (fun x r h => by have q : m_spec_l1DrawText x.1 = some r := h; rw [Gd] at q; exact q) fun _ => by kernel_rfl
def Lh : Sig := ⟨[.bx 154 (.pair (.sl (.int .u8)) (.pair tI .unit)), .rd tI], [none, none], [.rd yPg], [some 4]⟩
noncomputable def Cp (a0 : (List Int) × Int × Unit) (a1 : Int) : Option (((Pg × Unit) × (((List Int) × Int × Unit) × Unit))) :=
 ((Aa a0 4).bind fun val => some ((val.1, ()), val.2, ())).bind fun val => ((Aa val.2.1 4).bind fun val => some ((val.1, ()), val.2, ())).bind fun val_1 => bif decide (0 ≤ val_1.1.1) then bif decide (val_1.1.1 < nI [1, 2, 256, 60000].length) then ((Aa val_1.2.1 4).bind fun val => some ((val.1, ()), val.2, ())).bind fun val_2 => bif decide (0 ≤ val_2.1.1) then bif decide (val_2.1.1 < nI [1, 2, 65536, 1000000000].length) then bif IntKind.i64.wrap (1 + val.1.1) != 3 then (m_spec_l1DrawText val_2.2.1).bind fun val_3 => ((Aa val_3.2.1 4).bind fun val => some ((val.1, ()), val.2, ())).bind fun val_4 => bif val_4.1.1 == 0 then ((Aa val_4.2.1 2).bind fun val => some ((val.1, ()), val.2, ())).bind fun val_5 => (m_spec_l1Many (ByteArray.mk #[112]) (IntKind.i64.wrap (IntKind.i64.wrap (IntKind.i64.wrap (64 - a1) - 8) - val_5.1.1))).bind fun val_6 => some (((IntKind.i64.wrap (1 + val.1.1), [1, 2, 256, 60000].getD (Int.toNat val_1.1.1) 0, [1, 2, 65536, 1000000000].getD (Int.toNat val_2.1.1) 0, val_6.1), ()), val_5.2) else some (((IntKind.i64.wrap (1 + val.1.1), [1, 2, 256, 60000].getD (Int.toNat val_1.1.1) 0, [1, 2, 65536, 1000000000].getD (Int.toNat val_2.1.1) 0, val_3.1), ()), val_4.2) else some (((IntKind.i64.wrap (1 + val.1.1), [1, 2, 256, 60000].getD (Int.toNat val_1.1.1) 0, [1, 2, 65536, 1000000000].getD (Int.toNat val_2.1.1) 0, ByteArray.mk #[], ()), ()), val_2.2) else none else none else none else none
theorem Gf : ∃ f, f = @Cp := ⟨_, rfl⟩
noncomputable def m_spec_l1DrawPage := Classical.choose Gf
theorem Gg : @m_spec_l1DrawPage = @Cp := Classical.choose_spec Gf
noncomputable def sd_spec_l1DrawPage : SD := ⟨Lh, fun x => m_spec_l1DrawPage x.1 x.2.1⟩
theorem Aba {k : Nat} {r : Rd} {w : Int} (h : Se k r) (hk : k + 20 < 1099511627776) (w0 : 1 ≤ w) (w1 : w ≤ 8) : Ar (m_spec_l1DrawPage r w) fun q => q.1.1.2.2.2.1.size ≤ 100 ∧ Se (k + 20) q.2.1 := by
 rw [Gg]
 unfold Cp
 refine Ax h (by omega) (by omega) fun v1 r1 a0 a1 h1 => ?_
 dsimp only
 refine Ax h1 (by omega) (by omega) fun v2 r2 b0 b1 h2 => ?_
 dsimp only
 refine Ar.go (decide_eq_true b0) (Ar.go (decide_eq_true b1) ?_)
 refine Ax h2 (by omega) (by omega) fun v3 r3 c0 c1 h3 => ?_
 dsimp only
 refine Ar.go (decide_eq_true c0) (Ar.go (decide_eq_true c1) (Ar.cond (fun _ => ?_) fun _ => Ar.some ⟨Nat.zero_le _, h3.mono (by omega)⟩))
 refine Ar.bind (Aa9 h3 (by omega)) fun q hq => ?_
 refine Ax hq.2 (by omega) (by omega) fun v4 r4 d0 d1 h4 => ?_
 dsimp only
 refine Ar.cond (fun _ => ?_) fun _ => Ar.some ⟨hq.1, h4.mono (by omega)⟩
 refine Ax h4 (by omega) (by omega) fun v5 r5 e0 e1 h5 => ?_
 dsimp only
 have ew : IntKind.i64.wrap (IntKind.i64.wrap (IntKind.i64.wrap (64 - w) - 8) - v5) = 64 - w - 8 - v5 := by rw [Ai (n := 64 - w) (by omega) (by omega), Ai (n := 64 - w - 8) (by omega) (by omega), Ai (by omega) (by omega)]
 rw [ew]
 refine Ar.bind (U5 (ByteArray.mk #[112]) (64 - w - 8 - v5) (by omega) (by omega) (by decide)) fun q2 hq2 => Ar.some ⟨?_, h5.mono (by omega)⟩
 show q2.1.1.size ≤ 100
 rw [hq2]
 show 1 * _ ≤ 100
 omega
theorem Li : Eo Try.prog 76 sd_spec_l1DrawPage :=
 Cl (pat := Ff) [] Ou (Ck (l := [(64, sd_spec_l1Rd__pick), (73, sd_spec_l1Many), (77, sd_spec_l1Part), (117, sd_spec_l1DrawText)]) ⟨Bl, Gb, Eg, Lg, trivial⟩) trivial Try.func76 (de := fun x => Cp x.1 x.2.1) (fun x r h => by have q : m_spec_l1DrawPage x.1 x.2.1 = some r := h; rw [Gg] at q; exact q) fun _ => by kernel_rfl
def Jj : Sig := ⟨[.rd (.sl (.int .u8))], [none], [.rd yPg, .rd tI], [some 4, none]⟩
noncomputable def B6 (a0 : List Int) : Option (((Pg × (Int) × Unit) × (Unit))) :=
 (m_spec_l1Open a0).bind fun val => (m_spec_l1DrawWidth val.1.1).bind fun val => (m_spec_l1DrawPage val.2.1 val.1.1).bind fun val_1 => bif decide (nI (ByteArray.size val_1.1.1.2.2.2.1) > IntKind.i64.wrap (IntKind.i64.wrap (64 - val.1.1) - 8)) then bif decide (0 ≤ IntKind.i64.wrap (IntKind.i64.wrap (64 - val.1.1) - 8)) then bif decide (IntKind.i64.wrap (IntKind.i64.wrap (64 - val.1.1) - 8) ≤ nI (ByteArray.size val_1.1.1.2.2.2.1)) then ((Aa val_1.2.1 3).bind fun val => some ((val.1, ()), val.2, ())).bind fun val_2 => bif decide (val_2.1.1 > 0) then some (((val_1.1.1.1, val_1.1.1.2.1, val_1.1.1.2.2.1, Ac val_1.1.1.2.2.2.1 0 (IntKind.i64.wrap (IntKind.i64.wrap (64 - val.1.1) - 8)), ()), val.1), ()) else ((Aa val_2.2.1 5).bind fun val => some ((val.1, ()), val.2, ())).bind fun val_3 => bif val_3.1.1 == 0 then ((Aa val_3.2.1 7).bind fun val => some ((val.1, ()), val.2, ())).bind fun val_4 => some (((IntKind.i64.wrap (val_4.1.1 - 1), val_1.1.1.2.1, val_1.1.1.2.2.1, Ac val_1.1.1.2.2.2.1 0 (IntKind.i64.wrap (IntKind.i64.wrap (64 - val.1.1) - 8)), ()), val.1), ()) else bif val_3.1.1 == 1 then ((Aa val_3.2.1 3).bind fun val => some ((val.1, ()), val.2, ())).bind fun val_4 => bif decide (0 ≤ val_4.1.1) then bif decide (val_4.1.1 < nI [0, -1, 60001].length) then some (((val_1.1.1.1, [0, -1, 60001].getD (Int.toNat val_4.1.1) 0, val_1.1.1.2.2.1, Ac val_1.1.1.2.2.2.1 0 (IntKind.i64.wrap (IntKind.i64.wrap (64 - val.1.1) - 8)), ()), val.1), ()) else none else none else bif val_3.1.1 == 2 then ((Aa val_3.2.1 3).bind fun val => some ((val.1, ()), val.2, ())).bind fun val_4 => bif decide (0 ≤ val_4.1.1) then bif decide (val_4.1.1 < nI [0, -1, 1000000001].length) then some (((val_1.1.1.1, val_1.1.1.2.1, [0, -1, 1000000001].getD (Int.toNat val_4.1.1) 0, Ac val_1.1.1.2.2.2.1 0 (IntKind.i64.wrap (IntKind.i64.wrap (64 - val.1.1) - 8)), ()), val.1), ()) else none else none else bif val_3.1.1 == 3 then ((Aa val_3.2.1 2).bind fun val => some ((val.1, ()), val.2, ())).bind fun val_4 => (m_spec_l1Many (ByteArray.mk #[112]) (IntKind.i64.wrap (IntKind.i64.wrap (IntKind.i64.wrap (64 - val.1.1) - 8) + val_4.1.1))).bind fun val_5 => some (((val_1.1.1.1, val_1.1.1.2.1, val_1.1.1.2.2.1, val_5.1), val.1), ()) else ((Aa val_3.2.1 3).bind fun val => some ((val.1, ()), val.2, ())).bind fun val_4 => bif decide (0 ≤ val_4.1.1) then bif decide (val_4.1.1 < nI [0, 9, -1].length) then some (((val_1.1.1.1, val_1.1.1.2.1, val_1.1.1.2.2.1, Ac val_1.1.1.2.2.2.1 0 (IntKind.i64.wrap (IntKind.i64.wrap (64 - val.1.1) - 8)), ()), [0, 9, -1].getD (Int.toNat val_4.1.1) 0, ()), ()) else none else none else none else none else ((Aa val_1.2.1 3).bind fun val => some ((val.1, ()), val.2, ())).bind fun val_2 => bif decide (val_2.1.1 > 0) then some ((val_1.1.1, val.1), ()) else ((Aa val_2.2.1 5).bind fun val => some ((val.1, ()), val.2, ())).bind fun val_3 => bif val_3.1.1 == 0 then ((Aa val_3.2.1 7).bind fun val => some ((val.1, ()), val.2, ())).bind fun val_4 => some (((IntKind.i64.wrap (val_4.1.1 - 1), val_1.1.1.2), val.1), ()) else bif val_3.1.1 == 1 then ((Aa val_3.2.1 3).bind fun val => some ((val.1, ()), val.2, ())).bind fun val_4 => bif decide (0 ≤ val_4.1.1) then bif decide (val_4.1.1 < nI [0, -1, 60001].length) then some (((val_1.1.1.1, [0, -1, 60001].getD (Int.toNat val_4.1.1) 0, val_1.1.1.2.2), val.1), ()) else none else none else bif val_3.1.1 == 2 then ((Aa val_3.2.1 3).bind fun val => some ((val.1, ()), val.2, ())).bind fun val_4 => bif decide (0 ≤ val_4.1.1) then bif decide (val_4.1.1 < nI [0, -1, 1000000001].length) then some (((val_1.1.1.1, val_1.1.1.2.1, [0, -1, 1000000001].getD (Int.toNat val_4.1.1) 0, val_1.1.1.2.2.2), val.1), ()) else none else none else bif val_3.1.1 == 3 then ((Aa val_3.2.1 2).bind fun val => some ((val.1, ()), val.2, ())).bind fun val_4 => (m_spec_l1Many (ByteArray.mk #[112]) (IntKind.i64.wrap (IntKind.i64.wrap (IntKind.i64.wrap (64 - val.1.1) - 8) + val_4.1.1))).bind fun val_5 => some (((val_1.1.1.1, val_1.1.1.2.1, val_1.1.1.2.2.1, val_5.1), val.1), ()) else ((Aa val_3.2.1 3).bind fun val => some ((val.1, ()), val.2, ())).bind fun val => bif decide (0 ≤ val.1.1) then bif decide (val.1.1 < nI [0, 9, -1].length) then some ((val_1.1.1, [0, 9, -1].getD (Int.toNat val.1.1) 0, ()), ()) else none else none
theorem Fh : ∃ f, f = @B6 := ⟨_, rfl⟩
noncomputable def m_spec_DrawFormPage := Classical.choose Fh
theorem Fi : @m_spec_DrawFormPage = @B6 := Classical.choose_spec Fh
noncomputable def sd_spec_DrawFormPage : SD := ⟨Jj, fun x => m_spec_DrawFormPage x.1⟩
theorem Oz (b : List Int) (h : I3 (.sl (.int .u8)) b) : Ar (m_spec_DrawFormPage b) fun _ => True := by
 rw [Fi]
 unfold B6
 refine Ar.bind (Zj b h) fun q hq => ?_
 refine Ar.bind (x8 hq (by omega)) fun q2 hq2 => ?_
 obtain ⟨⟨w, ⟨⟩⟩, r2, ⟨⟩⟩ := q2
 obtain ⟨⟨w0, w1⟩, h2⟩ := hq2
 dsimp only at w0 w1 h2 ⊢
 refine Ar.bind (Aba h2 (by omega) w0 w1) fun q3 hq3 => ?_
 have h3 := hq3.2
 have ew : IntKind.i64.wrap (IntKind.i64.wrap (64 - w) - 8) = 56 - w := by rw [Ai (n := 64 - w) (by omega) (by omega), Ai (by omega) (by omega)]; omega
 simp only [ew]
 have hm : ∀ v : Int, 0 ≤ v → v < 2 → Ar (m_spec_l1Many (ByteArray.mk #[112]) (IntKind.i64.wrap (56 - w + v))) fun _ => True := fun v a b => by
  rw [Ai (n := 56 - w + v) (by omega) (by omega)]
  exact (U5 _ (56 - w + v) (by omega) (by omega) (by decide)).mono fun _ _ => trivial
 refine Ar.cond (fun c => ?_) fun c => ?_
 ·have c := of_decide_eq_true c
  refine Ar.go (decide_eq_true (by omega)) (Ar.go (decide_eq_true (by omega)) ?_)
  refine Ax h3 (by omega) (by omega) fun v r v0 v1 h => ?_
  dsimp only
  refine Ar.cond (fun _ => Ar.some trivial) fun _ => ?_
  refine Ax h (by omega) (by omega) fun v r v0 v1 h => ?_
  dsimp only
  repeat' first
   | exact Ar.some trivial
   | exact Ar.bind (hm _ v0 v1) fun q _ => Ar.some trivial
   | refine Ar.go (decide_eq_true v0) (Ar.go (decide_eq_true v1) (Ar.some trivial))
   | (refine Ax h (by omega) (by omega) fun v r v0 v1 h => ?_; dsimp only)
   | refine Ar.cond (fun _ => ?_) fun _ => ?_
 ·refine Ax h3 (by omega) (by omega) fun v r v0 v1 h => ?_
  dsimp only
  refine Ar.cond (fun _ => Ar.some trivial) fun _ => ?_
  refine Ax h (by omega) (by omega) fun v r v0 v1 h => ?_
  dsimp only
  repeat' first
   | exact Ar.some trivial
   | exact Ar.bind (hm _ v0 v1) fun q _ => Ar.some trivial
   | refine Ar.go (decide_eq_true v0) (Ar.go (decide_eq_true v1) (Ar.some trivial))
   | (refine Ax h (by omega) (by omega) fun v r v0 v1 h => ?_; dsimp only)
   | refine Ar.cond (fun _ => ?_) fun _ => ?_
theorem Fj : Eo Try.prog 26 sd_spec_DrawFormPage :=
 Cl (pat := Ff) [] Ou (Ck (l := [(62, sd_spec_l1Open), (64, sd_spec_l1Rd__pick), (73, sd_spec_l1Many), (75, sd_spec_l1DrawWidth), (76, sd_spec_l1DrawPage), (77, sd_spec_l1Part)]) ⟨Je, Bl, Gb, J8, Li, Eg, trivial⟩) trivial Try.func26 (de := fun x => B6 x.1) (fun x r h => by have q : m_spec_DrawFormPage x.1 = some r := h; rw [Fi] at q; exact q) fun _ => by kernel_rfl
def Nz (v n : Int) : Option ByteArray := if 0 ≤ n ∧ n ≤ 1000 then some (Bn v n.toNat) else none
def Eh (v0 v6 : Int) (r0 : List Int) : Nat := v6.toNat + 2
def Yg : Sig := ⟨[.rd tI, .rd tI], [none, none], [.rd .str], [none]⟩
noncomputable def sd_impl_be : SD := ⟨Yg, fun x => (Nz x.1 x.2.1).bind fun r => some ((r, ()), (()))⟩
noncomputable def ta_impl_be : Tb := tb []
def pa_impl_be : Nat → Pat × (Nat → Pat) := Sc [(4, ⟨[.row 5 0 5 (.int .u8)], [(0, .lf (.d tI)), (5, .lf (.row 0)), (6, .lf (.d tI))], [.row 5 (.int .u8)]⟩, [(2, ⟨[.row 5 0 5 (.int .u8)], [(5, .lf (.row 0))], [.row 5 (.int .u8)]⟩)])]
noncomputable def co_impl_be_4 : Code := (Bi (D9 Try.f68)).getD 0 .skip
noncomputable def Ei {R : Type}  (NX : ((Int) × (Int) × (List Int) × Unit) → Option R) (X2 : ((List Int) × Unit) → Option R) (v0 : Int) (v6 : Int) (r0 : List Int) : Option R :=
 bif decide (v6 ≥ 0) then bif decide (0 ≤ v6) then bif decide (v6 < nI r0.length) then bif decide (v6.toNat < r0.length) then NX (v0.fdiv (2 ^ min (Int.toNat 8) 64), IntKind.i64.wrap (v6 - 1), r0.set v6.toNat (IntKind.u8.wrap v0), ()) else none else none else none else X2 (r0, ())
noncomputable def Cq : Nat → (Int) → (Int) → (List Int) →  Option ((List Int) × Unit)
 | 0, _, _, _ => none
 | m + 1, v0, v6, r0 => Ei  (fun d => Cq m d.1 d.2.1 d.2.2.1) (fun d => some (d)) v0 v6 r0
noncomputable def Lj (a0 : Int) (a1 : Int) : Option ((((ByteArray) × Unit) × (Unit))) :=
 bif decide (a1 = a1) then bif decide (0 ≤ a1) then bif decide (a1.toNat * 1 ≤ 140737488355328) then ((fun d => Cq (Eh d.1 d.2.1 d.2.2.1) d.1 d.2.1 d.2.2.1) (a0, IntKind.i64.wrap (a1 - 1), List.replicate a1.toNat 0, ())).bind fun val => some ((strOfNums val.1, ()), ()) else none else none else none
theorem Zm : ∀ (k m : Nat) (v : Int) (l t : List Int), l.length = k → k ≤ 1000 → k < m → Cq m v ((k : Int) - 1) (l ++ t) = some (E1 v k ++ t, ())
 | 0, m + 1, v, l, t, hl, hk, hm => by
  obtain rfl : l = [] := List.length_eq_zero_iff.1 hl
  simp only [Cq, Ei]
  rw [decide_eq_false (by omega)]
  rfl
 | k + 1, m + 1, v, l, t, hl, hk, hm => by
  have e : (((k + 1 : Nat) : Int) - 1) = (k : Int) := by omega
  rw [e]
  simp only [Cq, Ei]
  have hlen : (l ++ t).length = k + 1 + t.length := by rw [List.length_append, hl]
  rw [decide_eq_true (show (k : Int) ≥ 0 by omega), decide_eq_true (show (k : Int) < nI (l ++ t).length by simp only [nI, hlen]; omega), decide_eq_true (show Int.toNat (k : Int) < (l ++ t).length by rw [hlen]; omega), Ai (by omega) (by omega)]
  simp only [cond_true, Int.toNat_natCast]
  obtain ⟨l', x, rfl⟩ : ∃ l' x, l = l' ++ [x] := ⟨l.dropLast, l.getLast (by intro h; subst h; simp at hl), (List.dropLast_concat_getLast _).symm⟩
  have hl' : l'.length = k := by simpa using hl
  have hs : ((l' ++ [x]) ++ t).set k (IntKind.wrap IntKind.u8 v) = l' ++ (v % 256 :: t) := by
   rw [List.append_assoc, List.set_append_right _ _ (by omega), hl']
   simp only [Nat.sub_self, List.singleton_append, List.set_cons_zero]
   rfl
  rw [hs]
  have := Zm k m (v / 256) l' (v % 256 :: t) hl' (by omega) (by omega)
  have e2 : Int.fdiv v (2 ^ min (Int.toNat 8) 64) = v / 256 := by
   show Int.fdiv v 256 = v / 256
   exact Int.fdiv_eq_ediv_of_nonneg _ (by omega)
  rw [e2, this]
  simp only [E1, List.append_assoc, List.singleton_append]
theorem Yh (a0 : Int) (a1 : Int) r (h : Nz a0 a1 = some r) : Lj a0 a1 = some ((r, ()), (())) := by
 unfold Nz at h
 split at h
 ·rename_i hc
  cases h
  obtain ⟨n, rfl⟩ : ∃ n : Nat, a1 = (n : Int) := ⟨a1.toNat, by omega⟩
  unfold Lj
  rw [decide_eq_true rfl, decide_eq_true hc.1, decide_eq_true (show Int.toNat (n : Int) * 1 ≤ 140737488355328 by omega), Ai (by omega) (by omega)]
  have hL := Zm n (Eh a0 ((n : Int) - 1) (List.replicate n 0)) a0 (List.replicate n 0) [] (by simp) (by omega) (by simp only [Eh]; omega)
  rw [List.append_nil, List.append_nil] at hL
  exact Wk hL rfl
 ·cases h
noncomputable def Mt {R : Type} (k : Kt R) := (y6 (pa_impl_be 4) (.exit 0) 2 k)
noncomputable def Tt {R : Type} : Lt R pa_impl_be := (Sb (pat := pa_impl_be) 4 (fun d k => (Cq (Eh d.1 d.2.1 d.2.2.1) d.1 d.2.1 d.2.2.1).bind (Mt k)) Ou)
theorem Rk : A7 Try.prog ta_impl_be := Ck trivial
theorem U6 {R : Type} : Cn Try.prog R 24 0 pa_impl_be Tt co_impl_be_4 :=
 Ke (cfg := ⟨ta_impl_be, 0, 24, pa_impl_be⟩) 4 [] (fun NX X d => Ei  NX X d.1 d.2.1 d.2.2.1) (fun m d => Cq m d.1 d.2.1 d.2.2.1) (fun d => Eh d.1 d.2.1 d.2.2.1) Mt Rk trivial (fun f NX d => by unfold Ei; simp only [Ct, De, B9, Option.bind_assoc, Option.bind_none, Option.bind_some]) (fun _ _ _ => by kernel_rfl)
theorem Rl : Eo Try.prog 68 sd_impl_be :=
 Cl (pat := pa_impl_be) [co_impl_be_4] Tt Rk ⟨U6, trivial⟩ Try.func68 (de := fun x => Lj x.1 x.2.1) (fun x r h => H9 (Yh x.1 x.2.1) h) fun _ => by kernel_rfl
def Da (v lo hi : Int) : Bool := Cs v lo hi
def Yi : Sig := ⟨[.rd tI, .rd tI, .rd tI], [none, none, none], [.rd .bool], [none]⟩
noncomputable def sd_impl_in : SD := ⟨Yi, fun x => some (((Da x.1 x.2.1 x.2.2.1), ()), (()))⟩
noncomputable def Lk (a0 : Int) (a1 : Int) (a2 : Int) : Option ((((Bool) × Unit) × (Unit))) :=
 bif decide (a0 ≥ a1) then some ((decide (a0 ≤ a2), ()), ()) else some ((false, ()), ())
theorem Yj (a0 a1 a2 : Int) : Lk a0 a1 a2 = some ((Da a0 a1 a2, ()), ()) := by
 unfold Lk Da Cs
 by_cases h : a0 ≥ a1
 ·have : decide (a1 ≤ a0) = true := by simpa using h
  simp [h, this]
 ·have : decide (a1 ≤ a0) = false := by simpa using h
  simp [h, this]
theorem Ll : Eo Try.prog 83 sd_impl_in :=
 Cl (pat := Ff) [] Ou (Ck (l := []) trivial) trivial Try.func83 (de := fun x => Lk x.1 x.2.1 x.2.2.1) (fun x r h => (Yj x.1 x.2.1 x.2.2.1).trans h) fun _ => by kernel_rfl
def Cz (s : ByteArray) (w : Int) : Option ByteArray := if s.size < 4611686018427387904 then some (Ia s w) else none
def Dg (v0 : ByteArray) (v1 v5 v6 : Int) : Nat := (nI v0.size - v6).toNat + 1
def Wx : Sig := ⟨[.rd .str, .rd tI], [none, none], [.rd .str], [none]⟩
noncomputable def sd_impl_Sum : SD := ⟨Wx, fun x => (Cz x.1 x.2.1).bind fun r => some ((r, ()), (()))⟩
noncomputable def ta_impl_Sum : Tb := tb [(68, sd_impl_be), (83, sd_impl_in)]
def pa_impl_Sum : Nat → Pat × (Nat → Pat) := Sc [(6, ⟨[], [(0, .lf (.d .str)), (1, .lf (.d tI)), (5, .lf (.d (.int .u64))), (6, .lf (.d tI))], []⟩, [(2, ⟨[], [(1, .lf (.d tI)), (5, .lf (.d (.int .u64)))], []⟩)])]
noncomputable def co_impl_Sum_6 : Code := (Bi (D9 Try.f30)).getD 0 .skip
noncomputable def Dh {R : Type}  (NX : ((ByteArray) × (Int) × (Int) × (Int) × Unit) → Option R) (X2 : ((Int) × (Int) × Unit) → Option R) (v0 : ByteArray) (v1 : Int) (v5 : Int) (v6 : Int) : Option R :=
 bif decide (v6 < nI v0.size) then bif decide (0 ≤ v6) then bif decide (v6 < nI v0.size) then NX (v0, v1, IntKind.u64.wrap (IntKind.u64.wrap (nI (BitVec.ofInt 64 v5 ^^^ BitVec.ofInt 64 (IntKind.u64.wrap (Ah v0 v6))).toNat) * 1099511628211), IntKind.i64.wrap (v6 + 1), ()) else none else none else X2 (v1, v5, ())
noncomputable def Bo : Nat → (ByteArray) → (Int) → (Int) → (Int) →  Option ((Int) × (Int) × Unit)
 | 0, _, _, _, _ => none
 | m + 1, v0, v1, v5, v6 => Dh  (fun d => Bo m d.1 d.2.1 d.2.2.1 d.2.2.2.1) (fun d => some (d)) v0 v1 v5 v6
noncomputable def Jk (a0 : ByteArray) (a1 : Int) : Option ((((ByteArray) × Unit) × (Unit))) :=
 bif !Da a1 1 8 then some ((ByteArray.mk #[], ()), ()) else ((fun d => Bo (Dg d.1 d.2.1 d.2.2.1 d.2.2.2.1) d.1 d.2.1 d.2.2.1 d.2.2.2.1) (a0, a1, 14695981039346656037, 0, ())).bind fun val => bif decide (0 ≤ IntKind.i64.wrap (8 - val.1)) then bif decide (IntKind.i64.wrap (8 - val.1) ≤ nI (Bn (IntKind.i64.wrap val.2.1) (Int.toNat 8)).size) then some ((Ac (Bn (IntKind.i64.wrap val.2.1) (Int.toNat 8)) (IntKind.i64.wrap (8 - val.1)) (nI (Bn (IntKind.i64.wrap val.2.1) (Int.toNat 8)).size), ()), ()) else none else none
theorem Wy (a0 : ByteArray) (a1 : Int) r (h : Cz a0 a1 = some r) : Jk a0 a1 = some ((r, ()), (())) := by
 unfold Cz at h
 split at h
 rotate_left
 ·cases h
 rename_i hsz
 cases h
 unfold Jk Ia
 generalize hC : (14695981039346656037 : Int) = C
 have h0 : U64 C := by rw [← hC]; exact ⟨by decide, by decide⟩
 show (bif !Cs a1 1 8 then _ else _) = _
 cases hw : Cs a1 1 8 with
 | false => rfl
 | true =>
  have k1 := of_decide_eq_true (Eb hw).1
  have k2 := of_decide_eq_true (Eb hw).2
  ·simp only [Bool.not_true, cond_false, cond_true]
   have hL := U1 a0.size (fun _ _ => True) (fun i h => I5 h (Ah a0 i)) (g := fun m i h => Bo m a0 a1 h i) (ok := fun h => (a1, h, ())) (fun m i h hi _ => by
    show Bo (m + 1) a0 a1 h i = _
    simp only [Bo, Dh]
    have c1 : (i : Int) < nI a0.size := by simp only [nI]; omega
    rw [decide_eq_true c1, Ac4, wI (show i < 4611686018427387904 by omega)]
    rfl) (fun m h _ => by
    show Bo (m + 1) a0 a1 h a0.size = _
    simp only [Bo, Dh]
    rw [decide_eq_false (show ¬ ((a0.size : Int) < nI a0.size) by simp only [nI]; omega)]
    rfl) (fun _ _ _ _ => trivial) a0.size (Dg a0 a1 C 0) 0 C (by omega) (by simp only [Dg, nI]; omega) trivial
   rw [show ((0 : Nat) : Int) = 0 from rfl] at hL
   refine Wk hL ?_
   have e1 : IntKind.i64.wrap (8 - a1) = 8 - a1 := Ai (by omega) (by omega)
   have hh := Zf a0 a0.size 0 h0
   have eH : iter (fun i h => I5 h (Ah a0 i)) a0.size 0 C = Nq a0 a0.size 0 C := rfl
   rw [eH]
   generalize Nq a0 a0.size 0 C = H at hh ⊢
   show (bif decide (0 ≤ IntKind.i64.wrap (8 - a1)) then (bif decide (IntKind.i64.wrap (8 - a1) ≤ nI (ByteArray.size (Bn (IntKind.i64.wrap H) (Int.toNat 8)))) then some ((Ac (Bn (IntKind.i64.wrap H) (Int.toNat 8)) (IntKind.i64.wrap (8 - a1)) (nI (ByteArray.size (Bn (IntKind.i64.wrap H) (Int.toNat 8)))), ()), ()) else none) else none) = some ((Bn H a1.toNat, ()), ())
   rw [e1, Aay hh k1 k2, decide_eq_true (show 0 ≤ 8 - a1 by omega), decide_eq_true (show 8 - a1 ≤ nI (ByteArray.size (Bn (IntKind.i64.wrap H) (Int.toNat 8))) by rw [Df]; simp [nI]; omega)]
   rfl
noncomputable def Kh {R : Type} (k : Kt R) := (y6 (pa_impl_Sum 6) (.exit 0) 2 k)
noncomputable def Rm {R : Type} : Lt R pa_impl_Sum := (Sb (pat := pa_impl_Sum) 6 (fun d k => (Bo (Dg d.1 d.2.1 d.2.2.1 d.2.2.2.1) d.1 d.2.1 d.2.2.1 d.2.2.2.1).bind (Kh k)) Ou)
theorem O0 : A7 Try.prog ta_impl_Sum := Ck ⟨Rl, Ll, trivial⟩
theorem Sf {R : Type} : Cn Try.prog R 29 0 pa_impl_Sum Rm co_impl_Sum_6 :=
 Ke (cfg := ⟨ta_impl_Sum, 0, 29, pa_impl_Sum⟩) 6 [] (fun NX X d => Dh  NX X d.1 d.2.1 d.2.2.1 d.2.2.2.1) (fun m d => Bo m d.1 d.2.1 d.2.2.1 d.2.2.2.1) (fun d => Dg d.1 d.2.1 d.2.2.1 d.2.2.2.1) Kh O0 trivial (fun f NX d => by unfold Dh; simp only [Ct, De, B9, Option.bind_assoc, Option.bind_none, Option.bind_some]) (fun _ _ _ => by kernel_rfl)
theorem O1 : Eo Try.prog 30 sd_impl_Sum :=
 Cl (pat := pa_impl_Sum) [co_impl_Sum_6] Rm O0 ⟨Sf, trivial⟩ Try.func30 (de := fun x => Jk x.1 x.2.1) (fun x r h => H9 (Wy x.1 x.2.1) h) fun _ => by kernel_rfl
def U7 : Sig := ⟨[.rd tI], [none], [.rd tI], [none]⟩
noncomputable def Mu (a0 : Int) : Option ((((Int) × Unit) × (Unit))) :=
 some ((IntKind.i64.wrap (IntKind.i64.wrap (64 - a0) - 8), ()), ())
noncomputable def sd_impl_room : SD := ⟨U7, fun x => Mu x.1⟩
theorem Mv : Eo Try.prog 84 sd_impl_room :=
 Cl (pat := Ff) [] Ou (Ck (l := []) trivial) trivial Try.func84 (de := fun x => Mu x.1) (fun x r h => h) fun _ => by kernel_rfl
def Db (p : Pg) (w : Int) : Bool := Be p w
def Mw : Sig := ⟨[.rd yPg, .rd tI], [some 4, none], [.rd .bool], [none]⟩
noncomputable def sd_impl_validPage : SD := ⟨Mw, fun x => some (((Db x.1 x.2.1), ()), (()))⟩
noncomputable def Ej (a0 : Pg) (a1 : Int) : Option ((((Bool) × Unit) × (Unit))) :=
 bif Da a1 1 8 then bif Da a0.1 1 4 then bif Da a0.2.1 1 60000 then bif Da a0.2.2.1 1 1000000000 then bif decide (nI (ByteArray.size a0.2.2.2.1) ≤ IntKind.i64.wrap (IntKind.i64.wrap (64 - a1) - 8)) then bif a0.1 != 3 then some ((true, ()), ()) else some ((ByteArray.toList a0.2.2.2.1 == (ByteArray.mk #[]).toList, ()), ()) else some ((false, ()), ()) else some ((false, ()), ()) else some ((false, ()), ()) else some ((false, ()), ()) else some ((false, ()), ())
theorem Mx (a0 : Pg) (a1 : Int) : Ej a0 a1 = some (((Db a0 a1), ()), (())) := by
 unfold Ej Db Be
 have tl : ByteArray.toList (ByteArray.mk #[]) = [] := by decide +kernel
 rw [tl]
 show (bif Cs a1 1 8 then (bif Cs a0.1 1 4 then (bif Cs a0.2.1 1 60000 then (bif Cs a0.2.2.1 1 1000000000 then _ else _) else _) else _) else _) = _
 cases hw : Cs a1 1 8 with
 | false => rfl
 | true =>
  have k1 := of_decide_eq_true (Eb hw).1
  have k2 := of_decide_eq_true (Eb hw).2
  rw [Ai (n := 64 - a1) (by omega) (by omega), Ai (by omega) (by omega), show 64 - a1 - 8 = 56 - a1 by omega]
  cases Cs a0.1 1 4 <;> cases Cs a0.2.1 1 60000 <;> cases Cs a0.2.2.1 1 1000000000 <;> try rfl
  show (bif decide ((ByteArray.size a0.2.2.2.1 : Int) ≤ 56 - a1) then _ else _) = _
  cases decide ((ByteArray.size a0.2.2.2.1 : Int) ≤ 56 - a1) <;> cases (a0.1 != 3) <;> rfl
theorem My : Eo Try.prog 78 sd_impl_validPage :=
 Cl (pat := Ff) [] Ou (Ck (l := [(83, sd_impl_in), (84, sd_impl_room)]) ⟨Ll, Mv, trivial⟩) trivial Try.func78 (de := fun x => Ej x.1 x.2.1) (fun x r h => (Mx x.1 x.2.1).trans h) fun _ => by kernel_rfl
def Mz : Sig := ⟨[.rd .str, .rd (.int .i64)], [none, none], [.rd .str], [none]⟩
noncomputable def Ek : SD := ⟨Mz, fun x => (K7 x.1 x.2.1).bind fun r => some ((r, ()), ())⟩
theorem M0 : Cr Try.prog 79 ∧ Io Try.prog 79 Ek.sg Ek.den := ⟨⟨_, Try.func79, by kernel_rfl, by kernel_rfl⟩, u4⟩
def Ag (p : Pg) (w : Int) : ByteArray := An p w
def N0 : Sig := ⟨[.rd yPg, .rd tI], [some 4, none], [.rd .str], [none]⟩
noncomputable def sd_impl_FormPage : SD := ⟨N0, fun x => some (((Ag x.1 x.2.1), ()), (()))⟩
noncomputable def E5 (a0 : Pg) (a1 : Int) : Option ((((ByteArray) × Unit) × (Unit))) :=
 bif !Db a0 a1 then some ((ByteArray.mk #[], ()), ()) else bif decide ((Bn a0.1 (Int.toNat 1) ++ Bn a0.2.1 (Int.toNat 2) ++ Bn a0.2.2.1 (Int.toNat 4) ++ Bn (nI (ByteArray.size a0.2.2.2.1)) (Int.toNat 1)).size + ByteArray.size a0.2.2.2.1 ≤ 9223372036854775807) then ((K7 (ByteArray.mk #[0]) (IntKind.i64.wrap (IntKind.i64.wrap (64 - a1) - nI (Bn a0.1 (Int.toNat 1) ++ Bn a0.2.1 (Int.toNat 2) ++ Bn a0.2.2.1 (Int.toNat 4) ++ Bn (nI (ByteArray.size a0.2.2.2.1)) (Int.toNat 1) ++ a0.2.2.2.1).size))).bind fun val => some ((val, ()), ())).bind fun val => bif decide ((Bn a0.1 (Int.toNat 1) ++ Bn a0.2.1 (Int.toNat 2) ++ Bn a0.2.2.1 (Int.toNat 4) ++ Bn (nI (ByteArray.size a0.2.2.2.1)) (Int.toNat 1) ++ a0.2.2.2.1).size + ByteArray.size val.1.1 ≤ 9223372036854775807) then ((Cz (Bn a0.1 (Int.toNat 1) ++ Bn a0.2.1 (Int.toNat 2) ++ Bn a0.2.2.1 (Int.toNat 4) ++ Bn (nI (ByteArray.size a0.2.2.2.1)) (Int.toNat 1) ++ a0.2.2.2.1 ++ val.1.1) a1).bind fun val => some ((val, ()), ())).bind fun val_1 => bif decide (ByteArray.size val_1.1.1 + (Bn a0.1 (Int.toNat 1) ++ Bn a0.2.1 (Int.toNat 2) ++ Bn a0.2.2.1 (Int.toNat 4) ++ Bn (nI (ByteArray.size a0.2.2.2.1)) (Int.toNat 1) ++ a0.2.2.2.1 ++ val.1.1).size ≤ 9223372036854775807) then some ((val_1.1.1 ++ (Bn a0.1 (Int.toNat 1) ++ Bn a0.2.1 (Int.toNat 2) ++ Bn a0.2.2.1 (Int.toNat 4) ++ Bn (nI (ByteArray.size a0.2.2.2.1)) (Int.toNat 1) ++ a0.2.2.2.1 ++ val.1.1), ()), ()) else none else none else none
theorem N1 (a0 : Pg) (a1 : Int) : E5 a0 a1 = some (((Ag a0 a1), ()), (())) := by
 unfold E5 Ag An
 show (bif !Be a0 a1 then _ else _) = _
 cases hp : Be a0 a1 with
 | false => rfl
 | true =>
  obtain ⟨hw, k1, k2, kp⟩ := Ed hp
  simp only [Bool.not_true, cond_false, cond_true]
  have hb : Bc a0 a1 = Bn a0.1 1 ++ Bn a0.2.1 2 ++ Bn a0.2.2.1 4 ++ Bn (nI a0.2.2.2.1.size) 1 ++ a0.2.2.2.1 ++ strOfNums (List.replicate (56 - a1 - a0.2.2.2.1.size).toNat 0) := rfl
  have hs4 : (Bn a0.1 1 ++ Bn a0.2.1 2 ++ Bn a0.2.2.1 4 ++ Bn (nI a0.2.2.2.1.size) 1).size = 8 := by simp only [ByteArray.size_append, Df]
  have hs5 : (Bn a0.1 1 ++ Bn a0.2.1 2 ++ Bn a0.2.2.1 4 ++ Bn (nI a0.2.2.2.1.size) 1 ++ a0.2.2.2.1).size = 8 + a0.2.2.2.1.size := by rw [ByteArray.size_append, hs4]
  show (bif decide ((Bn a0.1 1 ++ Bn a0.2.1 2 ++ Bn a0.2.2.1 4 ++ Bn (nI a0.2.2.2.1.size) 1).size + a0.2.2.2.1.size ≤ 9223372036854775807) then Option.bind (Option.bind (K7 (ByteArray.mk #[0]) (IntKind.i64.wrap (IntKind.i64.wrap (64 - a1) - nI (Bn a0.1 1 ++ Bn a0.2.1 2 ++ Bn a0.2.2.1 4 ++ Bn (nI a0.2.2.2.1.size) 1 ++ a0.2.2.2.1).size))) _) _ else none) = _
  generalize hB : Bn a0.1 1 ++ Bn a0.2.1 2 ++ Bn a0.2.2.1 4 ++ Bn (nI a0.2.2.2.1.size) 1 ++ a0.2.2.2.1 = B at *
  rw [hs4, decide_eq_true (by omega), Ai (n := 64 - a1) (by omega) (by omega), hs5, Ai (by simp only [nI]; omega) (by simp only [nI]; omega)]
  have hr : K7 (ByteArray.mk #[0]) (64 - a1 - nI (8 + a0.2.2.2.1.size)) = some (strOfNums (List.replicate (56 - a1 - a0.2.2.2.1.size).toNat 0)) := by
   have := Adm (56 - a1 - a0.2.2.2.1.size).toNat (by omega)
   rw [show ((56 - a1 - a0.2.2.2.1.size).toNat : Int) = 64 - a1 - nI (8 + a0.2.2.2.1.size) by simp only [nI]; omega] at this
   exact this
  have hz : (strOfNums (List.replicate (56 - a1 - a0.2.2.2.1.size).toNat 0)).size = (56 - a1 - a0.2.2.2.1.size).toNat := by rw [Ay, List.length_replicate]
  generalize strOfNums (List.replicate (56 - a1 - a0.2.2.2.1.size).toNat 0) = Z at *
  refine Wk (Wk hr rfl) ?_
  have hbs : (Bc a0 a1).size ≤ 64 := by rw [hb, ByteArray.size_append, hs5, hz]; omega
  dsimp only
  have hB' : Bn a0.1 (Int.toNat 1) ++ Bn a0.2.1 (Int.toNat 2) ++ Bn a0.2.2.1 (Int.toNat 4) ++ Bn (nI a0.2.2.2.1.size) (Int.toNat 1) ++ a0.2.2.2.1 = B := hB
  rw [hB']
  show (bif decide (ByteArray.size B + ByteArray.size Z ≤ 9223372036854775807) then Option.bind (Option.bind (Cz (B ++ Z) a1) _) _ else none) = _
  have hm : Cz (B ++ Z) a1 = some (Ia (Bc a0 a1) a1) := by
   rw [← hb]
   exact if_pos (by omega)
  rw [hs5, hz, decide_eq_true (by omega)]
  refine Wk (Wk hm rfl) ?_
  show (bif decide (ByteArray.size (Ia (Bc a0 a1) a1) + ByteArray.size (B ++ Z) ≤ 9223372036854775807) then some ((Ia (Bc a0 a1) a1 ++ (B ++ Z), ()), ()) else none) = _
  rw [← hb, E3 hw, decide_eq_true (by omega)]
  rfl
theorem Hk : Eo Try.prog 27 sd_impl_FormPage :=
 Cl (pat := Ff) [] Ou (Ck (l := [(30, sd_impl_Sum), (68, sd_impl_be), (78, sd_impl_validPage), (79, Ek)]) ⟨O1, Rl, My, M0, trivial⟩) trivial Try.func27 (de := fun x => E5 x.1 x.2.1) (fun x r h => (N1 x.1 x.2.1).trans h) fun _ => by kernel_rfl
def O7 : Sig := ⟨[.rd tI], [none], [.rd .bool], [none]⟩
noncomputable def A8 (a0 : Int) : Option ((((Bool) × Unit) × (Unit))) :=
 bif decide (a0 ≥ 1) then some ((decide (a0 ≤ 8), ()), ()) else some ((false, ()), ())
noncomputable def sd_spec_l1Width : SD := ⟨O7, fun x => A8 x.1⟩
theorem Dp : Eo Try.prog 86 sd_spec_l1Width :=
 Cl (pat := Ff) [] Ou (Ck (l := []) trivial) trivial Try.func86 (de := fun x => A8 x.1) (fun x r h => h) fun _ => by kernel_rfl
def Gz (p : Pg) (w : Int) : Bool := Be p w
def U8 : Sig := ⟨[.rd yPg, .rd tI], [some 4, none], [.rd .bool], [none]⟩
noncomputable def sd_spec_l1Ok : SD := ⟨U8, fun x => some (((Gz x.1 x.2.1), ()), (()))⟩
noncomputable def Ic (a0 : Pg) (a1 : Int) : Option ((((Bool) × Unit) × (Unit))) :=
 (A8 a1).bind fun val => bif !val.1.1 then some ((false, ()), ()) else bif decide (a0.1 < 1) then some ((false, ()), ()) else bif decide (a0.1 > 4) then some ((false, ()), ()) else bif decide (a0.2.1 < 1) then some ((false, ()), ()) else bif decide (a0.2.1 > 60000) then some ((false, ()), ()) else bif decide (a0.2.2.1 < 1) then some ((false, ()), ()) else bif decide (a0.2.2.1 > 1000000000) then some ((false, ()), ()) else bif decide (nI (ByteArray.size a0.2.2.2.1) ≤ IntKind.i64.wrap (IntKind.i64.wrap (64 - a1) - 8)) then bif a0.1 != 3 then some ((true, ()), ()) else some ((ByteArray.toList a0.2.2.2.1 == (ByteArray.mk #[]).toList, ()), ()) else some ((false, ()), ())
theorem U9 (a0 : Pg) (a1 : Int) : Ic a0 a1 = some (((Gz a0 a1), ()), (())) := by
 unfold Ic Gz Be
 have tl : ByteArray.toList (ByteArray.mk #[]) = [] := by decide +kernel
 rw [tl]
 refine Wk (wid a1) ?_
 show (bif !Cs a1 1 8 then _ else _) = _
 cases hw : Cs a1 1 8 with
 | false => rfl
 | true =>
  have k1 := of_decide_eq_true (Eb hw).1
  have k2 := of_decide_eq_true (Eb hw).2
  rw [Ai (n := 64 - a1) (by omega) (by omega), Ai (by omega) (by omega), show 64 - a1 - 8 = 56 - a1 by omega]
  have e : ∀ (x lo hi : Int) {ρ : Type} (f t : ρ), (bif decide (x < lo) then f else bif decide (x > hi) then f else t) = bif Cs x lo hi then t else f := by
   intro x lo hi ρ f t
   unfold Cs
   by_cases h1 : x < lo
   ·rw [decide_eq_true h1, decide_eq_false (show ¬ lo ≤ x by omega)]; rfl
   ·rw [decide_eq_false h1, decide_eq_true (show lo ≤ x by omega)]
    by_cases h2 : x > hi
    ·rw [decide_eq_true h2, decide_eq_false (show ¬ x ≤ hi by omega)]; rfl
    ·rw [decide_eq_false h2, decide_eq_true (show x ≤ hi by omega)]; rfl
  rw [e a0.1, e a0.2.1, e a0.2.2.1]
  cases Cs a0.1 1 4 <;> cases Cs a0.2.1 1 60000 <;> cases Cs a0.2.2.1 1 1000000000 <;> try rfl
  show (bif decide ((ByteArray.size a0.2.2.2.1 : Int) ≤ 56 - a1) then _ else _) = _
  cases decide ((ByteArray.size a0.2.2.2.1 : Int) ≤ 56 - a1) <;> cases (a0.1 != 3) <;> rfl
theorem Va : Eo Try.prog 80 sd_spec_l1Ok :=
 Cl (pat := Ff) [] Ou (Ck (l := [(77, sd_spec_l1Part), (86, sd_spec_l1Width)]) ⟨Eg, Dp, trivial⟩) trivial Try.func80 (de := fun x => Ic x.1 x.2.1) (fun x r h => (U9 x.1 x.2.1).trans h) fun _ => by kernel_rfl
theorem Hl : ∃ f : Int → Int → Option ByteArray, f = fun v n => if 0 ≤ v ∧ v < 9223372036854775808 ∧ 0 ≤ n ∧ n ≤ 1000 then some (Bn v n.toNat) else none := ⟨_, rfl⟩
noncomputable def At (v n : Int) : Option ByteArray := Classical.choose Hl v n
theorem Cg (v n : Int) : At v n = if 0 ≤ v ∧ v < 9223372036854775808 ∧ 0 ≤ n ∧ n ≤ 1000 then some (Bn v n.toNat) else none := by
 unfold At
 rw [Classical.choose_spec Hl]
def Bv (v0 v1 : Int) (v5 : ByteArray) (v6 : Int) : Nat := (v1 - v6).toNat + 1
def N2 : Sig := ⟨[.rd tI, .rd tI], [none, none], [.rd .str], [none]⟩
noncomputable def sd_spec_l1Number : SD := ⟨N2, fun x => (At x.1 x.2.1).bind fun r => some ((r, ()), (()))⟩
noncomputable def ta_spec_l1Number : Tb := tb []
def pa_spec_l1Number : Nat → Pat × (Nat → Pat) := Sc [(4, ⟨[], [(0, .lf (.d tI)), (1, .lf (.d tI)), (5, .lf (.d .str)), (6, .lf (.d tI))], []⟩, [(2, ⟨[], [(5, .lf (.d .str))], []⟩)])]
noncomputable def co_spec_l1Number_4 : Code := (Bi (D9 Try.f81)).getD 0 .skip
noncomputable def Bw {R : Type}  (NX : ((Int) × (Int) × (ByteArray) × (Int) × Unit) → Option R) (X2 : ((ByteArray) × Unit) → Option R) (v0 : Int) (v1 : Int) (v5 : ByteArray) (v6 : Int) : Option R :=
 bif decide (v6 < v1) then bif decide ((strOfNums [IntKind.u8.wrap (v0.tmod 256)]).size + v5.size ≤ 9223372036854775807) then NX (IntKind.i64.wrap (v0.tdiv 256), v1, strOfNums [IntKind.u8.wrap (v0.tmod 256)] ++ v5, IntKind.i64.wrap (v6 + 1), ()) else none else X2 (v5, ())
noncomputable def Ba : Nat → (Int) → (Int) → (ByteArray) → (Int) →  Option ((ByteArray) × Unit)
 | 0, _, _, _, _ => none
 | m + 1, v0, v1, v5, v6 => Bw  (fun d => Ba m d.1 d.2.1 d.2.2.1 d.2.2.2.1) (fun d => some (d)) v0 v1 v5 v6
noncomputable def E6 (a0 : Int) (a1 : Int) : Option ((((ByteArray) × Unit) × (Unit))) :=
 ((fun d => Ba (Bv d.1 d.2.1 d.2.2.1 d.2.2.2.1) d.1 d.2.1 d.2.2.1 d.2.2.2.1) (a0, a1, ByteArray.mk #[], 0, ())).bind fun val => some (val, ())
theorem Ki : ∀ (k m i : Nat) (v : Int) (out : ByteArray), i + k ≤ 1000 → k < m → out.size = i → 0 ≤ v → v < 9223372036854775808 → Ba m v ((i + k : Nat) : Int) out i = some (Bn v k ++ out, ())
 | 0, m + 1, i, v, out, hi, hm, ho, h0, h1 => by
  simp only [Ba, Bw]
  rw [decide_eq_false (by omega), Wm]
  rfl
 | k + 1, m + 1, i, v, out, hi, hm, ho, h0, h1 => by
  simp only [Ba, Bw]
  have e1 : IntKind.wrap IntKind.u8 (Int.tmod v 256) = v % 256 := by
   rw [Int.tmod_eq_emod_of_nonneg h0]
   show v % 256 % 256 = v % 256
   omega
  have e2 : IntKind.i64.wrap (Int.tdiv v 256) = v / 256 := by
   rw [Int.tdiv_eq_ediv_of_nonneg h0]
   exact Ai (by omega) (by omega)
  rw [decide_eq_true (show (i : Int) < ((i + (k + 1) : Nat) : Int) by omega), e1, e2, decide_eq_true (show ByteArray.size (strOfNums [v % 256]) + ByteArray.size out ≤ 9223372036854775807 by rw [ho, Ay]; simp; omega), wI (show i < 4611686018427387904 by omega)]
  have hL := Ki k m (i + 1) (v / 256) (strOfNums [v % 256] ++ out) (by omega) (by omega) (by rw [ByteArray.size_append, ho, Ay]; simp; omega) (by omega) (by omega)
  rw [show i + 1 + k = i + (k + 1) by omega] at hL
  refine hL.trans ?_
  rw [← ByteArray.append_assoc, ← Wn]
theorem N3 (a0 : Int) (a1 : Int) r (h : At a0 a1 = some r) : E6 a0 a1 = some ((r, ()), (())) := by
 rw [Cg] at h
 split at h
 ·rename_i hc
  cases h
  obtain ⟨n, rfl⟩ : ∃ n : Nat, a1 = (n : Int) := ⟨a1.toNat, by omega⟩
  unfold E6
  have hL := Ki n (Bv a0 n (ByteArray.mk #[]) 0) 0 a0 (ByteArray.mk #[]) (by omega) (by simp only [Bv]; omega) rfl hc.1 hc.2.1
  rw [Nat.zero_add] at hL
  rw [s6] at hL
  exact Wk hL rfl
 ·cases h
noncomputable def Gi {R : Type} (k : Kt R) := (y6 (pa_spec_l1Number 4) (.exit 0) 2 k)
noncomputable def If {R : Type} : Lt R pa_spec_l1Number := (Sb (pat := pa_spec_l1Number) 4 (fun d k => (Ba (Bv d.1 d.2.1 d.2.2.1 d.2.2.2.1) d.1 d.2.1 d.2.2.1 d.2.2.2.1).bind (Gi k)) Ou)
theorem Hm : A7 Try.prog ta_spec_l1Number := Ck trivial
theorem Lm {R : Type} : Cn Try.prog R 22 0 pa_spec_l1Number If co_spec_l1Number_4 :=
 Ke (cfg := ⟨ta_spec_l1Number, 0, 22, pa_spec_l1Number⟩) 4 [] (fun NX X d => Bw  NX X d.1 d.2.1 d.2.2.1 d.2.2.2.1) (fun m d => Ba m d.1 d.2.1 d.2.2.1 d.2.2.2.1) (fun d => Bv d.1 d.2.1 d.2.2.1 d.2.2.2.1) Gi Hm trivial (fun f NX d => by unfold Bw; simp only [Ct, De, B9, Option.bind_assoc, Option.bind_none, Option.bind_some]) (fun _ _ _ => by kernel_rfl)
theorem N4 : Eo Try.prog 81 sd_spec_l1Number :=
 Cl (pat := pa_spec_l1Number) [co_spec_l1Number_4] If Hm ⟨Lm, trivial⟩ Try.func81 (de := fun x => E6 x.1 x.2.1) (fun x r h => H9 (N3 x.1 x.2.1) h) fun _ => by kernel_rfl
def C0 (s : ByteArray) (w : Int) : Option ByteArray := if s.size < 4611686018427387904 then some (Ia s w) else none
def Di (v0 : ByteArray) (v1 v5 v6 : Int) : Nat := (nI v0.size - v6).toNat + 1
def C1 (v1 v5 : Int) (v7 : ByteArray) (v8 : Int) : Nat := (v1 - v8).toNat + 1
def Wz : Sig := ⟨[.rd .str, .rd tI], [none, none], [.rd .str], [none]⟩
noncomputable def sd_spec_Sum : SD := ⟨Wz, fun x => (C0 x.1 x.2.1).bind fun r => some ((r, ()), (()))⟩
noncomputable def ta_spec_Sum : Tb := tb [(86, sd_spec_l1Width)]
def pa_spec_Sum : Nat → Pat × (Nat → Pat) := Sc [(6, ⟨[], [(0, .lf (.d .str)), (1, .lf (.d tI)), (5, .lf (.d (.int .u64))), (6, .lf (.d tI))], []⟩, [(2, ⟨[], [(1, .lf (.d tI)), (5, .lf (.d (.int .u64)))], []⟩)]), (11, ⟨[], [(1, .lf (.d tI)), (5, .lf (.d (.int .u64))), (7, .lf (.d .str)), (8, .lf (.d tI))], []⟩, [(4, ⟨[], [(7, .lf (.d .str))], []⟩)])]
noncomputable def co_spec_Sum_6 : Code := (Bi (D9 Try.f82)).getD 0 .skip
noncomputable def co_spec_Sum_11 : Code := (Bi (D9 Try.f82)).getD 1 .skip
noncomputable def C2 {R : Type}  (NX : ((Int) × (Int) × (ByteArray) × (Int) × Unit) → Option R) (X4 : ((ByteArray) × Unit) → Option R) (v1 : Int) (v5 : Int) (v7 : ByteArray) (v8 : Int) : Option R :=
 bif decide (v8 < v1) then bif decide ((strOfNums [IntKind.u8.wrap (v5.tmod 256)]).size + v7.size ≤ 9223372036854775807) then NX (v1, IntKind.u64.wrap (v5.tdiv 256), strOfNums [IntKind.u8.wrap (v5.tmod 256)] ++ v7, IntKind.i64.wrap (v8 + 1), ()) else none else X4 (v7, ())
noncomputable def Bx : Nat → (Int) → (Int) → (ByteArray) → (Int) →  Option ((ByteArray) × Unit)
 | 0, _, _, _, _ => none
 | m + 1, v1, v5, v7, v8 => C2  (fun d => Bx m d.1 d.2.1 d.2.2.1 d.2.2.2.1) (fun d => some (d)) v1 v5 v7 v8
noncomputable def Dj {R : Type}  (NX : ((ByteArray) × (Int) × (Int) × (Int) × Unit) → Option R) (X2 : ((Int) × (Int) × Unit) → Option R) (v0 : ByteArray) (v1 : Int) (v5 : Int) (v6 : Int) : Option R :=
 bif decide (v6 < nI v0.size) then bif decide (0 ≤ v6) then bif decide (v6 < nI v0.size) then NX (v0, v1, IntKind.u64.wrap (IntKind.u64.wrap (nI (BitVec.ofInt 64 v5 ^^^ BitVec.ofInt 64 (IntKind.u64.wrap (Ah v0 v6))).toNat) * 1099511628211), IntKind.i64.wrap (v6 + 1), ()) else none else none else X2 (v1, v5, ())
noncomputable def Bp : Nat → (ByteArray) → (Int) → (Int) → (Int) →  Option ((Int) × (Int) × Unit)
 | 0, _, _, _, _ => none
 | m + 1, v0, v1, v5, v6 => Dj  (fun d => Bp m d.1 d.2.1 d.2.2.1 d.2.2.2.1) (fun d => some (d)) v0 v1 v5 v6
noncomputable def Jl (a0 : ByteArray) (a1 : Int) : Option ((((ByteArray) × Unit) × (Unit))) :=
 (A8 a1).bind fun val => bif !val.1.1 then some ((ByteArray.mk #[], ()), ()) else ((fun d => Bp (Di d.1 d.2.1 d.2.2.1 d.2.2.2.1) d.1 d.2.1 d.2.2.1 d.2.2.2.1) (a0, a1, 14695981039346656037, 0, ())).bind fun val => ((fun d => Bx (C1 d.1 d.2.1 d.2.2.1 d.2.2.2.1) d.1 d.2.1 d.2.2.1 d.2.2.2.1) (val.1, val.2.1, ByteArray.mk #[], 0, ())).bind fun val => some (val, ())
theorem Rn : ∀ (k m i : Nat) (v : Int) (out : ByteArray), i + k ≤ 1000 → k < m → out.size = i → U64 v → Bx m ((i + k : Nat) : Int) v out i = some (Bn v k ++ out, ())
 | 0, m + 1, i, v, out, hi, hm, ho, hv => by
  simp only [Bx, C2]
  rw [decide_eq_false (by omega), Wm]
  rfl
 | k + 1, m + 1, i, v, out, hi, hm, ho, hv => by
  have h0 := hv.1
  have h1 := hv.2
  simp only [Bx, C2]
  have e1 : IntKind.wrap IntKind.u8 (Int.tmod v 256) = v % 256 := by
   rw [Int.tmod_eq_emod_of_nonneg h0]
   show v % 256 % 256 = v % 256
   omega
  have e2 : IntKind.wrap IntKind.u64 (Int.tdiv v 256) = v / 256 := by
   rw [Int.tdiv_eq_ediv_of_nonneg h0, Abw]
   omega
  rw [decide_eq_true (show (i : Int) < ((i + (k + 1) : Nat) : Int) by omega), e1, e2, decide_eq_true (show ByteArray.size (strOfNums [v % 256]) + ByteArray.size out ≤ 9223372036854775807 by rw [ho, Ay]; simp; omega), wI (show i < 4611686018427387904 by omega)]
  have hL := Rn k m (i + 1) (v / 256) (strOfNums [v % 256] ++ out) (by omega) (by omega) (by rw [ByteArray.size_append, ho, Ay]; simp; omega) ⟨by omega, by omega⟩
  rw [show i + 1 + k = i + (k + 1) by omega] at hL
  refine hL.trans ?_
  rw [← ByteArray.append_assoc, ← Wn]
theorem W0 (a0 : ByteArray) (a1 : Int) r (h : C0 a0 a1 = some r) : Jl a0 a1 = some ((r, ()), (())) := by
 unfold C0 at h
 split at h
 rotate_left
 ·cases h
 rename_i hsz
 cases h
 unfold Jl Ia
 generalize hC : (14695981039346656037 : Int) = C
 have h0 : U64 C := by rw [← hC]; exact ⟨by decide, by decide⟩
 refine Wk (wid a1) ?_
 show (bif !Cs a1 1 8 then _ else _) = _
 cases hw : Cs a1 1 8 with
 | false => rfl
 | true =>
  have k1 := of_decide_eq_true (Eb hw).1
  have k2 := of_decide_eq_true (Eb hw).2
  ·simp only [Bool.not_true, cond_false, cond_true]
   have hL := U1 a0.size (fun _ _ => True) (fun i h => I5 h (Ah a0 i)) (g := fun m i h => Bp m a0 a1 h i) (ok := fun h => (a1, h, ())) (fun m i h hi _ => by
    show Bp (m + 1) a0 a1 h i = _
    simp only [Bp, Dj]
    have c1 : (i : Int) < nI a0.size := by simp only [nI]; omega
    rw [decide_eq_true c1, Ac4, wI (show i < 4611686018427387904 by omega)]
    rfl) (fun m h _ => by
    show Bp (m + 1) a0 a1 h a0.size = _
    simp only [Bp, Dj]
    rw [decide_eq_false (show ¬ ((a0.size : Int) < nI a0.size) by simp only [nI]; omega)]
    rfl) (fun _ _ _ _ => trivial) a0.size (Di a0 a1 C 0) 0 C (by omega) (by simp only [Di, nI]; omega) trivial
   rw [show ((0 : Nat) : Int) = 0 from rfl] at hL
   refine Wk hL ?_
   obtain ⟨n, rfl⟩ : ∃ n : Nat, a1 = (n : Int) := ⟨a1.toNat, by omega⟩
   have hM := Rn n (C1 n (Nq a0 a0.size 0 C) (ByteArray.mk #[]) 0) 0 (Nq a0 a0.size 0 C) (ByteArray.mk #[]) (by omega) (by simp only [C1]; omega) rfl (Zf a0 _ _ h0)
   rw [Nat.zero_add, s6] at hM
   exact Wk hM rfl
noncomputable def Kj {R : Type} (k : Kt R) := (y6 (pa_spec_Sum 6) (.exit 0) 2 k)
noncomputable def Jm {R : Type} (k : Kt R) := (y6 (pa_spec_Sum 11) (.exit 2) 4 k)
noncomputable def Ln {R : Type} : Lt R pa_spec_Sum := (Sb (pat := pa_spec_Sum) 6 (fun d k => (Bp (Di d.1 d.2.1 d.2.2.1 d.2.2.2.1) d.1 d.2.1 d.2.2.1 d.2.2.2.1).bind (Kj k)) (Sb (pat := pa_spec_Sum) 11 (fun d k => (Bx (C1 d.1 d.2.1 d.2.2.1 d.2.2.2.1) d.1 d.2.1 d.2.2.1 d.2.2.2.1).bind (Jm k)) Ou))
theorem Jn : A7 Try.prog ta_spec_Sum := Ck ⟨Dp, trivial⟩
theorem Ro {R : Type} : Cn Try.prog R 40 0 pa_spec_Sum Ln co_spec_Sum_11 :=
 Ke (cfg := ⟨ta_spec_Sum, 0, 40, pa_spec_Sum⟩) 11 [] (fun NX X d => C2  NX X d.1 d.2.1 d.2.2.1 d.2.2.2.1) (fun m d => Bx m d.1 d.2.1 d.2.2.1 d.2.2.2.1) (fun d => C1 d.1 d.2.1 d.2.2.1 d.2.2.2.1) Jm Jn trivial (fun f NX d => by unfold C2; simp only [Ct, De, B9, Option.bind_assoc, Option.bind_none, Option.bind_some]) (fun _ _ _ => by kernel_rfl)
theorem Sg {R : Type} : Cn Try.prog R 40 0 pa_spec_Sum Ln co_spec_Sum_6 :=
 Ke (cfg := ⟨ta_spec_Sum, 0, 40, pa_spec_Sum⟩) 6 [] (fun NX X d => Dj  NX X d.1 d.2.1 d.2.2.1 d.2.2.2.1) (fun m d => Bp m d.1 d.2.1 d.2.2.1 d.2.2.2.1) (fun d => Di d.1 d.2.1 d.2.2.1 d.2.2.2.1) Kj Jn trivial (fun f NX d => by unfold Dj; simp only [Ct, De, B9, Option.bind_assoc, Option.bind_none, Option.bind_some]) (fun _ _ _ => by kernel_rfl)
theorem O2 : Eo Try.prog 82 sd_spec_Sum :=
 Cl (pat := pa_spec_Sum) [co_spec_Sum_6, co_spec_Sum_11] Ln Jn ⟨Sg, Ro, trivial⟩ Try.func82 (de := fun x => Jl x.1 x.2.1) (fun x r h => H9 (W0 x.1 x.2.1) h) fun _ => by kernel_rfl
def Ad (p : Pg) (w : Int) : ByteArray := An p w
def By (v1 : Int) (v5 : ByteArray) : Nat := (64 - v1 - nI v5.size).toNat + 1
def N5 : Sig := ⟨[.rd yPg, .rd tI], [some 4, none], [.rd .str], [none]⟩
noncomputable def sd_spec_FormPage : SD := ⟨N5, fun x => some (((Ad x.1 x.2.1), ()), (()))⟩
noncomputable def ta_spec_FormPage : Tb := tb [(80, sd_spec_l1Ok), (81, sd_spec_l1Number), (82, sd_spec_Sum)]
def pa_spec_FormPage : Nat → Pat × (Nat → Pat) := Sc [(5, ⟨[], [(1, .lf (.d tI)), (5, .lf (.d .str))], []⟩, [(2, ⟨[], [(1, .lf (.d tI)), (5, .lf (.d .str))], []⟩)])]
noncomputable def co_spec_FormPage_5 : Code := (Bi (D9 Try.f28)).getD 0 .skip
noncomputable def Bz {R : Type}  (NX : ((Int) × (ByteArray) × Unit) → Option R) (X2 : ((Int) × (ByteArray) × Unit) → Option R) (v1 : Int) (v5 : ByteArray) : Option R :=
 bif decide (IntKind.i64.wrap (nI v5.size + v1) < 64) then bif decide (v5.size + (ByteArray.mk #[0]).size ≤ 9223372036854775807) then NX (v1, v5 ++ ByteArray.mk #[0], ()) else none else X2 (v1, v5, ())
noncomputable def Bb : Nat → (Int) → (ByteArray) →  Option ((Int) × (ByteArray) × Unit)
 | 0, _, _ => none
 | m + 1, v1, v5 => Bz  (fun d => Bb m d.1 d.2.1) (fun d => some (d)) v1 v5
noncomputable def E7 (a0 : Pg) (a1 : Int) : Option ((((ByteArray) × Unit) × (Unit))) :=
 bif !Gz a0 a1 then some ((ByteArray.mk #[], ()), ()) else ((At a0.1 1).bind fun val => some ((val, ()), ())).bind fun val => ((At a0.2.1 2).bind fun val => some ((val, ()), ())).bind fun val_1 => bif decide (ByteArray.size val.1.1 + ByteArray.size val_1.1.1 ≤ 9223372036854775807) then ((At a0.2.2.1 4).bind fun val => some ((val, ()), ())).bind fun val_2 => bif decide ((val.1.1 ++ val_1.1.1).size + ByteArray.size val_2.1.1 ≤ 9223372036854775807) then ((At (nI (ByteArray.size a0.2.2.2.1)) 1).bind fun val => some ((val, ()), ())).bind fun val_3 => bif decide ((val.1.1 ++ val_1.1.1 ++ val_2.1.1).size + ByteArray.size val_3.1.1 ≤ 9223372036854775807) then bif decide ((val.1.1 ++ val_1.1.1 ++ val_2.1.1 ++ val_3.1.1).size + ByteArray.size a0.2.2.2.1 ≤ 9223372036854775807) then ((fun d => Bb (By d.1 d.2.1) d.1 d.2.1) (a1, val.1.1 ++ val_1.1.1 ++ val_2.1.1 ++ val_3.1.1 ++ a0.2.2.2.1, ())).bind fun val => ((C0 val.2.1 val.1).bind fun val => some ((val, ()), ())).bind fun val_4 => bif decide (ByteArray.size val_4.1.1 + ByteArray.size val.2.1 ≤ 9223372036854775807) then some ((val_4.1.1 ++ val.2.1, ()), ()) else none else none else none else none else none
theorem W1 (w : Int) : ∀ (k m : Nat) (b : ByteArray), (b.size : Int) + w + k = 64 → 0 ≤ w → k < m → Bb m w b = some (w, b ++ strOfNums (List.replicate k 0), ())
 | 0, m + 1, b, h, h0, hm => by
  simp only [Bb, Bz]
  rw [Ai (by simp only [nI]; omega) (by simp only [nI]; omega), decide_eq_false (show ¬ (nI b.size + w < 64) by simp only [nI]; omega), show strOfNums (List.replicate 0 0) = ByteArray.mk #[] from rfl, s6]
  rfl
 | k + 1, m + 1, b, h, h0, hm => by
  simp only [Bb, Bz]
  have hz : (ByteArray.mk #[0]).size = 1 := rfl
  rw [Ai (by simp only [nI]; omega) (by simp only [nI]; omega), decide_eq_true (show nI b.size + w < 64 by simp only [nI]; omega), hz, decide_eq_true (show b.size + 1 ≤ 9223372036854775807 by omega)]
  have := W1 w k m (b ++ ByteArray.mk #[0]) (by rw [ByteArray.size_append, hz]; omega) h0 (by omega)
  refine this.trans ?_
  rw [ByteArray.append_assoc, show ByteArray.mk #[0] = strOfNums [0] from rfl, ← Kf]
  rfl
theorem N6 (a0 : Pg) (a1 : Int) : E7 a0 a1 = some (((Ad a0 a1), ()), (())) := by
 unfold E7 Ad An
 show (bif !Be a0 a1 then _ else _) = _
 cases hp : Be a0 a1 with
 | false => rfl
 | true =>
  obtain ⟨hw, k1, k2, kp⟩ := Ed hp
  obtain ⟨r1, r2, r3⟩ := Wp hp
  have n1 : At a0.1 1 = some (Bn a0.1 1) := (Cg _ _).trans (if_pos (by omega))
  have n2 : At a0.2.1 2 = some (Bn a0.2.1 2) := (Cg _ _).trans (if_pos (by omega))
  have n3 : At a0.2.2.1 4 = some (Bn a0.2.2.1 4) := (Cg _ _).trans (if_pos (by omega))
  have n4 : At (nI a0.2.2.2.1.size) 1 = some (Bn (nI a0.2.2.2.1.size) 1) := (Cg _ _).trans (if_pos (by simp only [nI]; omega))
  simp only [Bool.not_true, cond_false, cond_true, n1, n2, n3, n4, Option.bind_some]
  have hb : Bc a0 a1 = Bn a0.1 1 ++ Bn a0.2.1 2 ++ Bn a0.2.2.1 4 ++ Bn (nI a0.2.2.2.1.size) 1 ++ a0.2.2.2.1 ++ strOfNums (List.replicate (56 - a1 - a0.2.2.2.1.size).toNat 0) := rfl
  have hs4 : (Bn a0.1 1 ++ Bn a0.2.1 2 ++ Bn a0.2.2.1 4 ++ Bn (nI a0.2.2.2.1.size) 1).size = 8 := by simp only [ByteArray.size_append, Df]
  have hs3 : (Bn a0.1 1 ++ Bn a0.2.1 2 ++ Bn a0.2.2.1 4).size = 7 := by simp only [ByteArray.size_append, Df]
  have hs2 : (Bn a0.1 1 ++ Bn a0.2.1 2).size = 3 := by simp only [ByteArray.size_append, Df]
  have hs5 : (Bn a0.1 1 ++ Bn a0.2.1 2 ++ Bn a0.2.2.1 4 ++ Bn (nI a0.2.2.2.1.size) 1 ++ a0.2.2.2.1).size = 8 + a0.2.2.2.1.size := by rw [ByteArray.size_append, hs4]
  rw [hs4, hs3, hs2, Df, Df, Df, Df, decide_eq_true (show 1 + 2 ≤ 9223372036854775807 by decide), decide_eq_true (show 3 + 4 ≤ 9223372036854775807 by decide), decide_eq_true (show 7 + 1 ≤ 9223372036854775807 by decide), decide_eq_true (show 8 + a0.2.2.2.1.size ≤ 9223372036854775807 by omega)]
  simp only [cond_true]
  generalize hB : Bn a0.1 1 ++ Bn a0.2.1 2 ++ Bn a0.2.2.1 4 ++ Bn (nI a0.2.2.2.1.size) 1 ++ a0.2.2.2.1 = B at *
  have hL := W1 a1 (56 - a1 - a0.2.2.2.1.size).toNat (By a1 B) B (by rw [hs5]; omega) (by omega) (by simp only [By, nI, hs5]; omega)
  have hz : (strOfNums (List.replicate (56 - a1 - a0.2.2.2.1.size).toNat 0)).size = (56 - a1 - a0.2.2.2.1.size).toNat := by rw [Ay, List.length_replicate]
  rw [← hb] at hL
  have hbs : (Bc a0 a1).size ≤ 64 := by rw [hb, ByteArray.size_append, hs5, hz]; omega
  have hm : C0 (Bc a0 a1) a1 = some (Ia (Bc a0 a1) a1) := if_pos (by omega)
  refine Wk hL (Wk (Wk hm rfl) ?_)
  show (bif decide (ByteArray.size (Ia (Bc a0 a1) a1) + ByteArray.size (Bc a0 a1) ≤ 9223372036854775807) then some ((Ia (Bc a0 a1) a1 ++ Bc a0 a1, ()), ()) else none) = _
  rw [E3 hw, decide_eq_true (by omega)]
  rfl
noncomputable def Gj {R : Type} (k : Kt R) := (y6 (pa_spec_FormPage 5) (.exit 0) 2 k)
noncomputable def Ig {R : Type} : Lt R pa_spec_FormPage := (Sb (pat := pa_spec_FormPage) 5 (fun d k => (Bb (By d.1 d.2.1) d.1 d.2.1).bind (Gj k)) Ou)
theorem Hn : A7 Try.prog ta_spec_FormPage := Ck ⟨Va, N4, O2, trivial⟩
theorem Lo {R : Type} : Cn Try.prog R 41 0 pa_spec_FormPage Ig co_spec_FormPage_5 :=
 Ke (cfg := ⟨ta_spec_FormPage, 0, 41, pa_spec_FormPage⟩) 5 [] (fun NX X d => Bz  NX X d.1 d.2.1) (fun m d => Bb m d.1 d.2.1) (fun d => By d.1 d.2.1) Gj Hn trivial (fun f NX d => by unfold Bz; simp only [Ct, De, B9, Option.bind_assoc, Option.bind_none, Option.bind_some]) (fun _ _ _ => by kernel_rfl)
theorem E8 : Eo Try.prog 28 sd_spec_FormPage :=
 Cl (pat := pa_spec_FormPage) [co_spec_FormPage_5] Ig Hn ⟨Lo, trivial⟩ Try.func28 (de := fun x => E7 x.1 x.2.1) (fun x r h => (N6 x.1 x.2.1).trans h) fun _ => by kernel_rfl
def Dv (s : ByteArray) : Option Int := if s.size ≤ 7 then some (Ra s) else none
def Dl (v0 : ByteArray) (v3 v4 : Int) : Nat := (nI v0.size - v4).toNat + 1
def W2 : Sig := ⟨[.rd .str], [none], [.rd tI], [none]⟩
noncomputable def sd_impl_num : SD := ⟨W2, fun x => (Dv x.1).bind fun r => some ((r, ()), (()))⟩
noncomputable def ta_impl_num : Tb := tb []
def pa_impl_num : Nat → Pat × (Nat → Pat) := Sc [(4, ⟨[], [(0, .lf (.d .str)), (3, .lf (.d tI)), (4, .lf (.d tI))], []⟩, [(2, ⟨[], [(3, .lf (.d tI))], []⟩)])]
noncomputable def co_impl_num_4 : Code := (Bi (D9 Try.f85)).getD 0 .skip
noncomputable def Dm {R : Type}  (NX : ((ByteArray) × (Int) × (Int) × Unit) → Option R) (X2 : ((Int) × Unit) → Option R) (v0 : ByteArray) (v3 : Int) (v4 : Int) : Option R :=
 bif decide (v4 < nI v0.size) then bif decide (0 ≤ v4) then bif decide (v4 < nI v0.size) then NX (v0, IntKind.i64.wrap (nI (BitVec.ofInt 64 (IntKind.i64.wrap (v3 * 2 ^ min (Int.toNat 8) 64)) ||| BitVec.ofInt 64 (IntKind.i64.wrap (Ah v0 v4))).toNat), IntKind.i64.wrap (v4 + 1), ()) else none else none else X2 (v3, ())
noncomputable def Cb : Nat → (ByteArray) → (Int) → (Int) →  Option ((Int) × Unit)
 | 0, _, _, _ => none
 | m + 1, v0, v3, v4 => Dm  (fun d => Cb m d.1 d.2.1 d.2.2.1) (fun d => some (d)) v0 v3 v4
noncomputable def Jo (a0 : ByteArray) : Option ((((Int) × Unit) × (Unit))) :=
 ((fun d => Cb (Dl d.1 d.2.1 d.2.2.1) d.1 d.2.1 d.2.2.1) (a0, 0, 0, ())).bind fun val => some (val, ())
theorem W3 (s : ByteArray) (hs : s.size ≤ 7) : ∀ (k m i : Nat) (v : Int), i + k = s.size → k < m → 0 ≤ v → v < 256 ^ i → Cb m s v i = some (Wh s k i v, ())
 | 0, m + 1, i, v, hi, hm, h0, h1 => by
  simp only [Cb, Dm]
  rw [decide_eq_false (show ¬ ((i : Int) < nI s.size) by simp only [nI]; omega)]
  rfl
 | k + 1, m + 1, i, v, hi, hm, h0, h1 => by
  obtain ⟨hb, hs', e⟩ := Aax s i hi (by omega) h0 h1
  simp only [Cb, Dm]
  have c1 : (i : Int) < nI s.size := by simp only [nI]; omega
  rw [decide_eq_true c1, decide_eq_true (show (0 : Int) ≤ (i : Int) by omega), wI (show i < 4611686018427387904 by omega), e]
  exact W3 s hs k m (i + 1) _ (by omega) (by omega) hb hs'
theorem W4 (a0 : ByteArray) r (h : Dv a0 = some r) : Jo a0 = some ((r, ()), (())) := by
 unfold Dv at h
 split at h
 ·rename_i hc
  cases h
  unfold Jo
  have hL := W3 a0 hc a0.size (Dl a0 0 0) 0 0 (by omega) (by simp only [Dl, nI]; omega) (by omega) (by decide)
  exact Wk hL rfl
 ·cases h
noncomputable def Kk {R : Type} (k : Kt R) := (y6 (pa_impl_num 4) (.exit 0) 2 k)
noncomputable def Rp {R : Type} : Lt R pa_impl_num := (Sb (pat := pa_impl_num) 4 (fun d k => (Cb (Dl d.1 d.2.1 d.2.2.1) d.1 d.2.1 d.2.2.1).bind (Kk k)) Ou)
theorem O3 : A7 Try.prog ta_impl_num := Ck trivial
theorem Sh {R : Type} : Cn Try.prog R 19 0 pa_impl_num Rp co_impl_num_4 :=
 Ke (cfg := ⟨ta_impl_num, 0, 19, pa_impl_num⟩) 4 [] (fun NX X d => Dm  NX X d.1 d.2.1 d.2.2.1) (fun m d => Cb m d.1 d.2.1 d.2.2.1) (fun d => Dl d.1 d.2.1 d.2.2.1) Kk O3 trivial (fun f NX d => by unfold Dm; simp only [Ct, De, B9, Option.bind_assoc, Option.bind_none, Option.bind_some]) (fun _ _ _ => by kernel_rfl)
theorem W5 : Eo Try.prog 85 sd_impl_num :=
 Cl (pat := pa_impl_num) [co_impl_num_4] Rp O3 ⟨Sh, trivial⟩ Try.func85 (de := fun x => Jo x.1) (fun x r h => H9 (W4 x.1) h) fun _ => by kernel_rfl
def Al (s : ByteArray) (w : Int) : Pg × Bool := Ea s w
def N7 : Sig := ⟨[.rd .str, .rd tI], [none, none], [.rd yPg, .rd .bool], [some 4, none]⟩
noncomputable def sd_impl_ReadPage : SD := ⟨N7, fun x => some (((Al x.1 x.2.1).1, (Al x.1 x.2.1).2, ()), (()))⟩
noncomputable def E9 (a0 : ByteArray) (a1 : Int) : Option (((Pg × (Bool) × Unit) × (Unit))) :=
 bif nI a0.size != 64 then some (((0, 0, 0, ByteArray.mk #[], ()), false, ()), ()) else bif !Da a1 1 8 then some (((0, 0, 0, ByteArray.mk #[], ()), false, ()), ()) else bif decide (0 ≤ a1) then bif decide (a1 ≤ nI a0.size) then bif decide (7 < nI (Ac a0 a1 (nI a0.size)).size) then bif decide (IntKind.i64.wrap (Ah (Ac a0 a1 (nI a0.size)) 7) > IntKind.i64.wrap (IntKind.i64.wrap (64 - a1) - 8)) then some (((0, 0, 0, ByteArray.mk #[], ()), false, ()), ()) else bif decide (0 < nI (Ac a0 a1 (nI a0.size)).size) then bif decide (3 ≤ nI (Ac a0 a1 (nI a0.size)).size) then ((Dv (Ac (Ac a0 a1 (nI a0.size)) 1 3)).bind fun val => some ((val, ()), ())).bind fun val => bif decide (7 ≤ nI (Ac a0 a1 (nI a0.size)).size) then ((Dv (Ac (Ac a0 a1 (nI a0.size)) 3 7)).bind fun val => some ((val, ()), ())).bind fun val_1 => bif decide (8 ≤ IntKind.i64.wrap (8 + IntKind.i64.wrap (Ah (Ac a0 a1 (nI a0.size)) 7))) then bif decide (IntKind.i64.wrap (8 + IntKind.i64.wrap (Ah (Ac a0 a1 (nI a0.size)) 7)) ≤ nI (Ac a0 a1 (nI a0.size)).size) then bif !(Ag (IntKind.i64.wrap (Ah (Ac a0 a1 (nI a0.size)) 0), val.1.1, val_1.1.1, Ac (Ac a0 a1 (nI a0.size)) 8 (IntKind.i64.wrap (8 + IntKind.i64.wrap (Ah (Ac a0 a1 (nI a0.size)) 7))), ()) a1).toList == a0.toList then some (((0, 0, 0, ByteArray.mk #[], ()), false, ()), ()) else some (((IntKind.i64.wrap (Ah (Ac a0 a1 (nI a0.size)) 0), val.1.1, val_1.1.1, Ac (Ac a0 a1 (nI a0.size)) 8 (IntKind.i64.wrap (8 + IntKind.i64.wrap (Ah (Ac a0 a1 (nI a0.size)) 7))), ()), true, ()), ()) else none else none else none else none else none else none else none else none
theorem N8 (a0 : ByteArray) (a1 : Int) : E9 a0 a1 = some (((Al a0 a1).1, (Al a0 a1).2, ()), (())) := by
 unfold E9 Al Ea
 show (bif nI a0.size != 64 then _ else (bif !Cs a1 1 8 then _ else _)) = _
 cases hz : nI a0.size != 64 with
 | true => rfl
 | false =>
   cases hw : Cs a1 1 8 with
   | false => rfl
   | true =>
    have k1 := (Fg hw).1
    have k2 := (Fg hw).2
    have hs : a0.size = 64 := by
     by_cases q : nI a0.size = 64
     ·simp only [nI] at q; omega
     ·rw [(bne_iff_ne).2 q] at hz; cases hz
    have hb : (Ac a0 a1 (nI a0.size)).size = (64 - a1).toNat := by rw [Ca (by omega) (by simp only [nI]; omega) (by simp [nI])]; simp only [nI, hs]; omega
    simp only [Bool.not_true, cond_false, cond_true]
    rw [decide_eq_true (show (0 : Int) ≤ a1 by omega), decide_eq_true (show a1 ≤ nI a0.size by simp only [nI]; omega)]
    unfold Yb
    generalize Ac a0 a1 (nI a0.size) = b at *
    obtain ⟨b0, b1⟩ := E2 b 7
    obtain ⟨c0, c1⟩ := E2 b 0
    have hB : nI b.size = 64 - a1 := by simp only [nI]; omega
    rw [hB, decide_eq_true (show (7 : Int) < 64 - a1 by omega), decide_eq_true (show (0 : Int) < 64 - a1 by omega), decide_eq_true (show (3 : Int) ≤ 64 - a1 by omega), decide_eq_true (show (7 : Int) ≤ 64 - a1 by omega), Ai (n := Ah b 7) (by omega) (by omega), Ai (n := Ah b 0) (by omega) (by omega), Ai (n := 64 - a1) (by omega) (by omega), Ai (n := 64 - a1 - 8) (by omega) (by omega), Ai (n := 8 + Ah b 7) (by omega) (by omega), show 64 - a1 - 8 = 56 - a1 by omega]
    by_cases q : Ah b 7 > 56 - a1
    ·rw [decide_eq_true q]; rfl
    ·rw [decide_eq_false q]
     have n1 : Dv (Ac b 1 3) = some (Ra (Ac b 1 3)) := if_pos (by rw [Ca (by omega) (by omega) (by omega)]; decide)
     have n2 : Dv (Ac b 3 7) = some (Ra (Ac b 3 7)) := if_pos (by rw [Ca (by omega) (by omega) (by omega)]; decide)
     simp only [n1, n2, Option.bind_some, cond_true, cond_false]
     rw [decide_eq_true (show 8 ≤ 8 + Ah b 7 by omega), decide_eq_true (show 8 + Ah b 7 ≤ 64 - a1 by omega)]
     show (bif !(ByteArray.toList (An (Ya b) a1) == ByteArray.toList a0) then _ else _) = _
     cases (ByteArray.toList (An (Ya b) a1) == ByteArray.toList a0) <;> rfl
theorem N9 : Eo Try.prog 29 sd_impl_ReadPage :=
 Cl (pat := Ff) [] Ou (Ck (l := [(27, sd_impl_FormPage), (83, sd_impl_in), (84, sd_impl_room), (85, sd_impl_num)]) ⟨Hk, Ll, Mv, W5, trivial⟩) trivial Try.func29 (de := fun x => E9 x.1 x.2.1) (fun x r h => (N8 x.1 x.2.1).trans h) fun _ => by kernel_rfl
def Rq : Sig := ⟨[.bx 154 (.pair (.sl (.int .u8)) (.pair tI .unit)), .rd .str], [none, none], [.rd .str], [none]⟩
noncomputable def Em (a0 : (List Int) × Int × Unit) (a1 : ByteArray) : Option ((((ByteArray) × Unit) × (((List Int) × Int × Unit) × Unit))) :=
 ((Aa a0 256).bind fun val => some ((val.1, ()), val.2, ())).bind fun val => ((Aa val.2.1 5).bind fun val => some ((val.1, ()), val.2, ())).bind fun val_1 => bif val_1.1.1 == 0 then bif decide (0 ≤ IntKind.i64.wrap ((IntKind.i64.wrap (val.1.1 * IntKind.i64.wrap (nI a1.size + 1))).tdiv 256)) then bif decide (IntKind.i64.wrap ((IntKind.i64.wrap (val.1.1 * IntKind.i64.wrap (nI a1.size + 1))).tdiv 256) ≤ nI a1.size) then some ((Ac a1 0 (IntKind.i64.wrap ((IntKind.i64.wrap (val.1.1 * IntKind.i64.wrap (nI a1.size + 1))).tdiv 256)), ()), val_1.2) else none else none else bif val_1.1.1 == 1 then bif decide (0 ≤ IntKind.i64.wrap ((IntKind.i64.wrap (val.1.1 * IntKind.i64.wrap (nI a1.size + 1))).tdiv 256)) then bif decide (IntKind.i64.wrap ((IntKind.i64.wrap (val.1.1 * IntKind.i64.wrap (nI a1.size + 1))).tdiv 256) ≤ nI a1.size) then ((Aa val_1.2.1 6).bind fun val => some ((val.1, ()), val.2, ())).bind fun val_2 => bif decide (0 ≤ val_2.1.1) then bif decide (val_2.1.1 < nI [ByteArray.mk #[32], ByteArray.mk #[10], ByteArray.mk #[0], ByteArray.mk #[1], ByteArray.mk #[48], ByteArray.mk #[120]].length) then bif decide ((Ac a1 0 (IntKind.i64.wrap ((IntKind.i64.wrap (val.1.1 * IntKind.i64.wrap (nI a1.size + 1))).tdiv 256))).size + ByteArray.size ([ByteArray.mk #[32], ByteArray.mk #[10], ByteArray.mk #[0], ByteArray.mk #[1], ByteArray.mk #[48], ByteArray.mk #[120]].getD (Int.toNat val_2.1.1) (ByteArray.mk #[])) ≤ 9223372036854775807) then bif decide (0 ≤ IntKind.i64.wrap ((IntKind.i64.wrap (val.1.1 * IntKind.i64.wrap (nI a1.size + 1))).tdiv 256)) then bif decide (IntKind.i64.wrap ((IntKind.i64.wrap (val.1.1 * IntKind.i64.wrap (nI a1.size + 1))).tdiv 256) ≤ nI a1.size) then bif decide ((Ac a1 0 (IntKind.i64.wrap ((IntKind.i64.wrap (val.1.1 * IntKind.i64.wrap (nI a1.size + 1))).tdiv 256)) ++ [ByteArray.mk #[32], ByteArray.mk #[10], ByteArray.mk #[0], ByteArray.mk #[1], ByteArray.mk #[48], ByteArray.mk #[120]].getD (Int.toNat val_2.1.1) (ByteArray.mk #[])).size + (Ac a1 (IntKind.i64.wrap ((IntKind.i64.wrap (val.1.1 * IntKind.i64.wrap (nI a1.size + 1))).tdiv 256)) (nI a1.size)).size ≤ 9223372036854775807) then some ((Ac a1 0 (IntKind.i64.wrap ((IntKind.i64.wrap (val.1.1 * IntKind.i64.wrap (nI a1.size + 1))).tdiv 256)) ++ [ByteArray.mk #[32], ByteArray.mk #[10], ByteArray.mk #[0], ByteArray.mk #[1], ByteArray.mk #[48], ByteArray.mk #[120]].getD (Int.toNat val_2.1.1) (ByteArray.mk #[]) ++ Ac a1 (IntKind.i64.wrap ((IntKind.i64.wrap (val.1.1 * IntKind.i64.wrap (nI a1.size + 1))).tdiv 256)) (nI a1.size), ()), val_2.2) else none else none else none else none else none else none else none else none else bif val_1.1.1 == 2 then bif decide (IntKind.i64.wrap ((IntKind.i64.wrap (val.1.1 * IntKind.i64.wrap (nI a1.size + 1))).tdiv 256) < nI a1.size) then bif decide (0 ≤ IntKind.i64.wrap ((IntKind.i64.wrap (val.1.1 * IntKind.i64.wrap (nI a1.size + 1))).tdiv 256)) then bif decide (IntKind.i64.wrap ((IntKind.i64.wrap (val.1.1 * IntKind.i64.wrap (nI a1.size + 1))).tdiv 256) ≤ nI a1.size) then bif decide (0 ≤ IntKind.i64.wrap (IntKind.i64.wrap ((IntKind.i64.wrap (val.1.1 * IntKind.i64.wrap (nI a1.size + 1))).tdiv 256) + 1)) then bif decide (IntKind.i64.wrap (IntKind.i64.wrap ((IntKind.i64.wrap (val.1.1 * IntKind.i64.wrap (nI a1.size + 1))).tdiv 256) + 1) ≤ nI a1.size) then bif decide ((Ac a1 0 (IntKind.i64.wrap ((IntKind.i64.wrap (val.1.1 * IntKind.i64.wrap (nI a1.size + 1))).tdiv 256))).size + (Ac a1 (IntKind.i64.wrap (IntKind.i64.wrap ((IntKind.i64.wrap (val.1.1 * IntKind.i64.wrap (nI a1.size + 1))).tdiv 256) + 1)) (nI a1.size)).size ≤ 9223372036854775807) then some ((Ac a1 0 (IntKind.i64.wrap ((IntKind.i64.wrap (val.1.1 * IntKind.i64.wrap (nI a1.size + 1))).tdiv 256)) ++ Ac a1 (IntKind.i64.wrap (IntKind.i64.wrap ((IntKind.i64.wrap (val.1.1 * IntKind.i64.wrap (nI a1.size + 1))).tdiv 256) + 1)) (nI a1.size), ()), val_1.2) else none else none else none else none else none else bif decide (0 ≤ IntKind.i64.wrap ((IntKind.i64.wrap (val.1.1 * IntKind.i64.wrap (nI a1.size + 1))).tdiv 256)) then bif decide (IntKind.i64.wrap ((IntKind.i64.wrap (val.1.1 * IntKind.i64.wrap (nI a1.size + 1))).tdiv 256) ≤ nI a1.size) then bif decide (a1.size + (Ac a1 (IntKind.i64.wrap ((IntKind.i64.wrap (val.1.1 * IntKind.i64.wrap (nI a1.size + 1))).tdiv 256)) (nI a1.size)).size ≤ 9223372036854775807) then some ((a1 ++ Ac a1 (IntKind.i64.wrap ((IntKind.i64.wrap (val.1.1 * IntKind.i64.wrap (nI a1.size + 1))).tdiv 256)) (nI a1.size), ()), val_1.2) else none else none else none else bif val_1.1.1 == 3 then bif decide (IntKind.i64.wrap ((IntKind.i64.wrap (val.1.1 * IntKind.i64.wrap (nI a1.size + 1))).tdiv 256) < nI a1.size) then bif decide (0 ≤ IntKind.i64.wrap ((IntKind.i64.wrap (val.1.1 * IntKind.i64.wrap (nI a1.size + 1))).tdiv 256)) then bif decide (IntKind.i64.wrap ((IntKind.i64.wrap (val.1.1 * IntKind.i64.wrap (nI a1.size + 1))).tdiv 256) ≤ nI a1.size) then bif decide (0 ≤ IntKind.i64.wrap ((IntKind.i64.wrap (val.1.1 * IntKind.i64.wrap (nI a1.size + 1))).tdiv 256)) then bif decide (IntKind.i64.wrap ((IntKind.i64.wrap (val.1.1 * IntKind.i64.wrap (nI a1.size + 1))).tdiv 256) < nI a1.size) then ((Aa val_1.2.1 8).bind fun val => some ((val.1, ()), val.2, ())).bind fun val_2 => bif decide (0 ≤ IntKind.u64.wrap val_2.1.1) then bif decide ((Ac a1 0 (IntKind.i64.wrap ((IntKind.i64.wrap (val.1.1 * IntKind.i64.wrap (nI a1.size + 1))).tdiv 256))).size + (strOfNums [IntKind.u8.wrap (IntKind.i64.wrap (nI (BitVec.ofInt 64 (IntKind.i64.wrap (Ah a1 (IntKind.i64.wrap ((IntKind.i64.wrap (val.1.1 * IntKind.i64.wrap (nI a1.size + 1))).tdiv 256)))) ^^^ BitVec.ofInt 64 (IntKind.i64.wrap (1 * 2 ^ min (IntKind.u64.wrap val_2.1.1).toNat 64))).toNat))]).size ≤ 9223372036854775807) then bif decide (0 ≤ IntKind.i64.wrap (IntKind.i64.wrap ((IntKind.i64.wrap (val.1.1 * IntKind.i64.wrap (nI a1.size + 1))).tdiv 256) + 1)) then bif decide (IntKind.i64.wrap (IntKind.i64.wrap ((IntKind.i64.wrap (val.1.1 * IntKind.i64.wrap (nI a1.size + 1))).tdiv 256) + 1) ≤ nI a1.size) then bif decide ((Ac a1 0 (IntKind.i64.wrap ((IntKind.i64.wrap (val.1.1 * IntKind.i64.wrap (nI a1.size + 1))).tdiv 256)) ++ strOfNums [IntKind.u8.wrap (IntKind.i64.wrap (nI (BitVec.ofInt 64 (IntKind.i64.wrap (Ah a1 (IntKind.i64.wrap ((IntKind.i64.wrap (val.1.1 * IntKind.i64.wrap (nI a1.size + 1))).tdiv 256)))) ^^^ BitVec.ofInt 64 (IntKind.i64.wrap (1 * 2 ^ min (IntKind.u64.wrap val_2.1.1).toNat 64))).toNat))]).size + (Ac a1 (IntKind.i64.wrap (IntKind.i64.wrap ((IntKind.i64.wrap (val.1.1 * IntKind.i64.wrap (nI a1.size + 1))).tdiv 256) + 1)) (nI a1.size)).size ≤ 9223372036854775807) then some ((Ac a1 0 (IntKind.i64.wrap ((IntKind.i64.wrap (val.1.1 * IntKind.i64.wrap (nI a1.size + 1))).tdiv 256)) ++ strOfNums [IntKind.u8.wrap (IntKind.i64.wrap (nI (BitVec.ofInt 64 (IntKind.i64.wrap (Ah a1 (IntKind.i64.wrap ((IntKind.i64.wrap (val.1.1 * IntKind.i64.wrap (nI a1.size + 1))).tdiv 256)))) ^^^ BitVec.ofInt 64 (IntKind.i64.wrap (1 * 2 ^ min (IntKind.u64.wrap val_2.1.1).toNat 64))).toNat))] ++ Ac a1 (IntKind.i64.wrap (IntKind.i64.wrap ((IntKind.i64.wrap (val.1.1 * IntKind.i64.wrap (nI a1.size + 1))).tdiv 256) + 1)) (nI a1.size), ()), val_2.2) else none else none else none else none else none else none else none else none else none else bif decide (0 ≤ IntKind.i64.wrap ((IntKind.i64.wrap (val.1.1 * IntKind.i64.wrap (nI a1.size + 1))).tdiv 256)) then bif decide (IntKind.i64.wrap ((IntKind.i64.wrap (val.1.1 * IntKind.i64.wrap (nI a1.size + 1))).tdiv 256) ≤ nI a1.size) then bif decide (a1.size + (Ac a1 (IntKind.i64.wrap ((IntKind.i64.wrap (val.1.1 * IntKind.i64.wrap (nI a1.size + 1))).tdiv 256)) (nI a1.size)).size ≤ 9223372036854775807) then some ((a1 ++ Ac a1 (IntKind.i64.wrap ((IntKind.i64.wrap (val.1.1 * IntKind.i64.wrap (nI a1.size + 1))).tdiv 256)) (nI a1.size), ()), val_1.2) else none else none else none else bif decide (0 ≤ IntKind.i64.wrap ((IntKind.i64.wrap (val.1.1 * IntKind.i64.wrap (nI a1.size + 1))).tdiv 256)) then bif decide (IntKind.i64.wrap ((IntKind.i64.wrap (val.1.1 * IntKind.i64.wrap (nI a1.size + 1))).tdiv 256) ≤ nI a1.size) then bif decide (a1.size + (Ac a1 (IntKind.i64.wrap ((IntKind.i64.wrap (val.1.1 * IntKind.i64.wrap (nI a1.size + 1))).tdiv 256)) (nI a1.size)).size ≤ 9223372036854775807) then some ((a1 ++ Ac a1 (IntKind.i64.wrap ((IntKind.i64.wrap (val.1.1 * IntKind.i64.wrap (nI a1.size + 1))).tdiv 256)) (nI a1.size), ()), val_1.2) else none else none else none
theorem Jp : ∃ f, f = @Em := ⟨_, rfl⟩
noncomputable def m_spec_l1Bend := Classical.choose Jp
theorem Jq : @m_spec_l1Bend = @Em := Classical.choose_spec Jp
noncomputable def sd_spec_l1Bend : SD := ⟨Rq, fun x => m_spec_l1Bend x.1 x.2.1⟩
theorem Abb {k : Nat} {r : Rd} {s : ByteArray} (h : Se k r) (hk : k + 10 < 1099511627776) (hs : s.size ≤ 1000000) : Ar (m_spec_l1Bend r s) fun q => q.1.1.size ≤ 2 * s.size + 8 ∧ Se (k + 10) q.2.1 := by
 rw [Jq]
 unfold Em
 refine Ax h (by omega) (by omega) fun v r1 v0 v1 h1 => ?_
 dsimp only
 have hI : 0 ≤ IntKind.i64.wrap ((IntKind.i64.wrap (v * IntKind.i64.wrap (nI s.size + 1))).tdiv 256) ∧ IntKind.i64.wrap ((IntKind.i64.wrap (v * IntKind.i64.wrap (nI s.size + 1))).tdiv 256) ≤ nI s.size := by
  have e1 : IntKind.i64.wrap (nI s.size + 1) = nI s.size + 1 := by simp only [nI]; exact Ai (by omega) (by omega)
  have m0 : 0 ≤ v * (nI s.size + 1) := Int.mul_nonneg v0 (by simp only [nI]; omega)
  have m1 : v * (nI s.size + 1) ≤ 255 * (nI s.size + 1) := Int.mul_le_mul_of_nonneg_right (by omega) (by simp only [nI]; omega)
  rw [e1, Ai (n := v * (nI s.size + 1)) (by omega) (by simp only [nI] at *; omega), Int.tdiv_eq_ediv_of_nonneg m0]
  simp only [nI] at *
  rw [Ai (by omega) (by omega)]
  omega
 generalize IntKind.i64.wrap ((IntKind.i64.wrap (v * IntKind.i64.wrap (nI s.size + 1))).tdiv 256) = I at *
 obtain ⟨i0, i1⟩ := hI
 have d0 : decide (0 ≤ I) = true := decide_eq_true i0
 have d1 : decide (I ≤ nI s.size) = true := decide_eq_true i1
 have c1 := Ft (s := s) (i := 0) (j := I) (by omega) i0 i1
 have c2 := Ft (s := s) i0 i1 (Int.le_refl _)
 have eI : IntKind.i64.wrap (I + 1) = I + 1 := by simp only [nI] at i1; exact Ai (by omega) (by omega)
 have hn : nI s.size = (s.size : Int) := rfl
 refine Ax h1 (by omega) (by omega) fun w r2 w0 w1 h2 => ?_
 dsimp only
 have dbl : Ar (bif decide (0 ≤ I) then bif decide (I ≤ nI s.size) then bif decide (s.size + (Ac s I (nI s.size)).size ≤ 9223372036854775807) then some ((s ++ Ac s I (nI s.size), ()), (r2, ())) else none else none else none) fun q => q.1.1.size ≤ 2 * s.size + 8 ∧ Se (k + 10) q.2.1 :=
  Ar.go d0 (Ar.go d1 (Ar.go (decide_eq_true (by omega)) (Ar.some ⟨by show (s ++ Ac s I (nI s.size)).size ≤ _; rw [ByteArray.size_append]; omega, h2.mono (by omega)⟩)))
 refine Ar.cond (fun _ => ?_) fun _ => Ar.cond (fun _ => ?_) fun _ => Ar.cond (fun _ => ?_) fun _ => Ar.cond (fun _ => ?_) fun _ => dbl
 ·exact Ar.go d0 (Ar.go d1 (Ar.some ⟨by show (Ac s 0 I).size ≤ _; omega, h2.mono (by omega)⟩))
 ·refine Ar.go d0 (Ar.go d1 ?_)
  refine Ax h2 (by omega) (by omega) fun u r3 u0 u1 h3 => ?_
  dsimp only
  have hg : ([ByteArray.mk #[32], ByteArray.mk #[10], ByteArray.mk #[0], ByteArray.mk #[1], ByteArray.mk #[48], ByteArray.mk #[120]].getD u.toNat (ByteArray.mk #[])).size ≤ 1 := w6 (Q := fun x : ByteArray => x.size ≤ 1) (by decide) u0 u1
  generalize [ByteArray.mk #[32], ByteArray.mk #[10], ByteArray.mk #[0], ByteArray.mk #[1], ByteArray.mk #[48], ByteArray.mk #[120]].getD u.toNat (ByteArray.mk #[]) = x at *
  refine Ar.go (decide_eq_true u0) (Ar.go (decide_eq_true u1) (Ar.go (decide_eq_true (by omega)) (Ar.go d0 (Ar.go d1 (Ar.go (decide_eq_true (by rw [ByteArray.size_append]; omega)) (Ar.some ⟨?_, h3.mono (by omega)⟩))))))
  show (Ac s 0 I ++ x ++ Ac s I (nI s.size)).size ≤ _
  rw [ByteArray.size_append, ByteArray.size_append]
  omega
 ·refine Ar.cond (fun c => ?_) fun _ => dbl
  have c := of_decide_eq_true c
  have c3 := Ft (s := s) (i := I + 1) (j := nI s.size) (by omega) (by omega) (Int.le_refl _)
  rw [eI]
  refine Ar.go d0 (Ar.go d1 (Ar.go (decide_eq_true (by omega)) (Ar.go (decide_eq_true (by omega)) (Ar.go (decide_eq_true (by omega)) (Ar.some ⟨?_, h2.mono (by omega)⟩)))))
  show (Ac s 0 I ++ Ac s (I + 1) (nI s.size)).size ≤ _
  rw [ByteArray.size_append]
  omega
 ·refine Ar.cond (fun c => ?_) fun _ => dbl
  have c' := of_decide_eq_true c
  have c3 := Ft (s := s) (i := I + 1) (j := nI s.size) (by omega) (by omega) (Int.le_refl _)
  refine Ar.go d0 (Ar.go d1 (Ar.go d0 (Ar.go c ?_)))
  refine Ax h2 (by omega) (by omega) fun u r3 u0 u1 h3 => ?_
  dsimp only
  have eu : IntKind.u64.wrap u = u := by
   show u % 18446744073709551616 = u
   omega
  rw [eu, eI]
  refine Ar.go (decide_eq_true u0) ?_
  generalize IntKind.u8.wrap (IntKind.i64.wrap (nI (BitVec.ofInt 64 (IntKind.i64.wrap (Ah s I)) ^^^ BitVec.ofInt 64 (IntKind.i64.wrap (1 * 2 ^ min u.toNat 64))).toNat)) = x
  have sx : (strOfNums [x]).size = 1 := by rw [Ay]; rfl
  refine Ar.go (decide_eq_true (by omega)) (Ar.go (decide_eq_true (by omega)) (Ar.go (decide_eq_true (by omega)) (Ar.go (decide_eq_true (by rw [ByteArray.size_append]; omega)) (Ar.some ⟨?_, h3.mono (by omega)⟩))))
  show (Ac s 0 I ++ strOfNums [x] ++ Ac s (I + 1) (nI s.size)).size ≤ _
  rw [ByteArray.size_append, ByteArray.size_append]
  omega
theorem Rr : Eo Try.prog 72 sd_spec_l1Bend :=
 Cl (pat := Ff) [] Ou (Ck (l := [(64, sd_spec_l1Rd__pick)]) ⟨Bl, trivial⟩) trivial Try.func72 (de := fun x => Em x.1 x.2.1) (fun x r h => by have q : m_spec_l1Bend x.1 x.2.1 = some r := h; rw [Jq] at q; exact q) fun _ => by kernel_rfl
def Jr : Sig := ⟨[.rd (.sl (.int .u8))], [none], [.rd .str, .rd tI], [none, none]⟩
noncomputable def B7 (a0 : List Int) : Option ((((ByteArray) × (Int) × Unit) × (Unit))) :=
 (m_spec_l1Open a0).bind fun val => (m_spec_DrawFormPage a0).bind fun val_1 => ((Aa val.1.1 2).bind fun val => some ((val.1, ()), val.2, ())).bind fun val => bif val.1.1 == 0 then (m_spec_l1Bend val.2.1 (Ad val_1.1.1 val_1.1.2.1)).bind fun val => ((Aa val.2.1 6).bind fun val => some ((val.1, ()), val.2, ())).bind fun val_2 => bif val_2.1.1 == 0 then (A8 val_1.1.2.1).bind fun val_3 => bif val_3.1.1 then bif nI (ByteArray.size val.1.1) == 64 then bif decide (0 ≤ val_1.1.2.1) then bif decide (val_1.1.2.1 ≤ nI (ByteArray.size val.1.1)) then bif decide ((Ac val.1.1 val_1.1.2.1 (nI (ByteArray.size val.1.1))).size ≤ 140737488355328) then ((Aa val_2.2.1 (nI (List.map (fun x => (x, ())) (Ab (Ac val.1.1 val_1.1.2.1 (nI (ByteArray.size val.1.1))))).length)).bind fun val => some ((val.1, ()), val.2, ())).bind fun val_4 => bif decide (0 ≤ val_4.1.1) then bif decide (val_4.1.1 < nI (List.map (fun x => (x, ())) (Ab (Ac val.1.1 val_1.1.2.1 (nI (ByteArray.size val.1.1))))).length) then ((Aa val_4.2.1 3).bind fun val => some ((val.1, ()), val.2, ())).bind fun val_5 => bif decide (0 ≤ val_4.1.1) then bif decide (val_4.1.1 < nI (List.map (fun x => (x, ())) (Ab (Ac val.1.1 val_1.1.2.1 (nI (ByteArray.size val.1.1))))).length) then bif decide (Int.toNat val_4.1.1 < (List.map (fun x => (x, ())) (Ab (Ac val.1.1 val_1.1.2.1 (nI (ByteArray.size val.1.1))))).length) then ((C0 (strOfNums (List.map (fun x => x.1) ((List.map (fun x => (x, ())) (Ab (Ac val.1.1 val_1.1.2.1 (nI (ByteArray.size val.1.1))))).set (Int.toNat val_4.1.1) (IntKind.u8.wrap (nI (BitVec.ofInt 8 ((List.map (fun x => (x, ())) (Ab (Ac val.1.1 val_1.1.2.1 (nI (ByteArray.size val.1.1))))).getD (Int.toNat val_4.1.1) (0, ())).1 ^^^ BitVec.ofInt 8 (IntKind.u8.wrap (IntKind.i64.wrap (1 + val_5.1.1)))).toNat), ())))) val_1.1.2.1).bind fun val => some ((val, ()), ())).bind fun val_6 => bif decide (ByteArray.size val_6.1.1 + (strOfNums (List.map (fun x => x.1) ((List.map (fun x => (x, ())) (Ab (Ac val.1.1 val_1.1.2.1 (nI (ByteArray.size val.1.1))))).set (Int.toNat val_4.1.1) (IntKind.u8.wrap (nI (BitVec.ofInt 8 ((List.map (fun x => (x, ())) (Ab (Ac val.1.1 val_1.1.2.1 (nI (ByteArray.size val.1.1))))).getD (Int.toNat val_4.1.1) (0, ())).1 ^^^ BitVec.ofInt 8 (IntKind.u8.wrap (IntKind.i64.wrap (1 + val_5.1.1)))).toNat), ())))).size ≤ 9223372036854775807) then ((Aa val_5.2.1 10).bind fun val => some ((val.1, ()), val.2, ())).bind fun val_7 => bif val_7.1.1 == 0 then ((Aa val_7.2.1 10).bind fun val => some ((val.1, ()), val.2, ())).bind fun val_8 => some ((val_6.1.1 ++ strOfNums (List.map (fun x => x.1) ((List.map (fun x => (x, ())) (Ab (Ac val.1.1 val_1.1.2.1 (nI (ByteArray.size val.1.1))))).set (Int.toNat val_4.1.1) (IntKind.u8.wrap (nI (BitVec.ofInt 8 ((List.map (fun x => (x, ())) (Ab (Ac val.1.1 val_1.1.2.1 (nI (ByteArray.size val.1.1))))).getD (Int.toNat val_4.1.1) (0, ())).1 ^^^ BitVec.ofInt 8 (IntKind.u8.wrap (IntKind.i64.wrap (1 + val_5.1.1)))).toNat), ()))), val_8.1), ()) else some ((val_6.1.1 ++ strOfNums (List.map (fun x => x.1) ((List.map (fun x => (x, ())) (Ab (Ac val.1.1 val_1.1.2.1 (nI (ByteArray.size val.1.1))))).set (Int.toNat val_4.1.1) (IntKind.u8.wrap (nI (BitVec.ofInt 8 ((List.map (fun x => (x, ())) (Ab (Ac val.1.1 val_1.1.2.1 (nI (ByteArray.size val.1.1))))).getD (Int.toNat val_4.1.1) (0, ())).1 ^^^ BitVec.ofInt 8 (IntKind.u8.wrap (IntKind.i64.wrap (1 + val_5.1.1)))).toNat), ()))), val_1.1.2), ()) else none else none else none else none else none else none else none else none else none else ((Aa val_2.2.1 10).bind fun val => some ((val.1, ()), val.2, ())).bind fun val_4 => bif val_4.1.1 == 0 then ((Aa val_4.2.1 10).bind fun val => some ((val.1, ()), val.2, ())).bind fun val_5 => some ((val.1.1, val_5.1), ()) else some ((val.1.1, val_1.1.2), ()) else ((Aa val_2.2.1 10).bind fun val => some ((val.1, ()), val.2, ())).bind fun val_4 => bif val_4.1.1 == 0 then ((Aa val_4.2.1 10).bind fun val => some ((val.1, ()), val.2, ())).bind fun val_5 => some ((val.1.1, val_5.1), ()) else some ((val.1.1, val_1.1.2), ()) else ((Aa val_2.2.1 10).bind fun val => some ((val.1, ()), val.2, ())).bind fun val_3 => bif val_3.1.1 == 0 then ((Aa val_3.2.1 10).bind fun val => some ((val.1, ()), val.2, ())).bind fun val_4 => some ((val.1.1, val_4.1), ()) else some ((val.1.1, val_1.1.2), ()) else ((Aa val.2.1 6).bind fun val => some ((val.1, ()), val.2, ())).bind fun val => bif val.1.1 == 0 then (A8 val_1.1.2.1).bind fun val_2 => bif val_2.1.1 then bif nI (Ad val_1.1.1 val_1.1.2.1).size == 64 then bif decide (0 ≤ val_1.1.2.1) then bif decide (val_1.1.2.1 ≤ nI (Ad val_1.1.1 val_1.1.2.1).size) then bif decide ((Ac (Ad val_1.1.1 val_1.1.2.1) val_1.1.2.1 (nI (Ad val_1.1.1 val_1.1.2.1).size)).size ≤ 140737488355328) then ((Aa val.2.1 (nI (List.map (fun x => (x, ())) (Ab (Ac (Ad val_1.1.1 val_1.1.2.1) val_1.1.2.1 (nI (Ad val_1.1.1 val_1.1.2.1).size)))).length)).bind fun val => some ((val.1, ()), val.2, ())).bind fun val => bif decide (0 ≤ val.1.1) then bif decide (val.1.1 < nI (List.map (fun x => (x, ())) (Ab (Ac (Ad val_1.1.1 val_1.1.2.1) val_1.1.2.1 (nI (Ad val_1.1.1 val_1.1.2.1).size)))).length) then ((Aa val.2.1 3).bind fun val => some ((val.1, ()), val.2, ())).bind fun val_3 => bif decide (0 ≤ val.1.1) then bif decide (val.1.1 < nI (List.map (fun x => (x, ())) (Ab (Ac (Ad val_1.1.1 val_1.1.2.1) val_1.1.2.1 (nI (Ad val_1.1.1 val_1.1.2.1).size)))).length) then bif decide (Int.toNat val.1.1 < (List.map (fun x => (x, ())) (Ab (Ac (Ad val_1.1.1 val_1.1.2.1) val_1.1.2.1 (nI (Ad val_1.1.1 val_1.1.2.1).size)))).length) then ((C0 (strOfNums (List.map (fun x => x.1) ((List.map (fun x => (x, ())) (Ab (Ac (Ad val_1.1.1 val_1.1.2.1) val_1.1.2.1 (nI (Ad val_1.1.1 val_1.1.2.1).size)))).set (Int.toNat val.1.1) (IntKind.u8.wrap (nI (BitVec.ofInt 8 ((List.map (fun x => (x, ())) (Ab (Ac (Ad val_1.1.1 val_1.1.2.1) val_1.1.2.1 (nI (Ad val_1.1.1 val_1.1.2.1).size)))).getD (Int.toNat val.1.1) (0, ())).1 ^^^ BitVec.ofInt 8 (IntKind.u8.wrap (IntKind.i64.wrap (1 + val_3.1.1)))).toNat), ())))) val_1.1.2.1).bind fun val => some ((val, ()), ())).bind fun val_4 => bif decide (ByteArray.size val_4.1.1 + (strOfNums (List.map (fun x => x.1) ((List.map (fun x => (x, ())) (Ab (Ac (Ad val_1.1.1 val_1.1.2.1) val_1.1.2.1 (nI (Ad val_1.1.1 val_1.1.2.1).size)))).set (Int.toNat val.1.1) (IntKind.u8.wrap (nI (BitVec.ofInt 8 ((List.map (fun x => (x, ())) (Ab (Ac (Ad val_1.1.1 val_1.1.2.1) val_1.1.2.1 (nI (Ad val_1.1.1 val_1.1.2.1).size)))).getD (Int.toNat val.1.1) (0, ())).1 ^^^ BitVec.ofInt 8 (IntKind.u8.wrap (IntKind.i64.wrap (1 + val_3.1.1)))).toNat), ())))).size ≤ 9223372036854775807) then ((Aa val_3.2.1 10).bind fun val => some ((val.1, ()), val.2, ())).bind fun val_5 => bif val_5.1.1 == 0 then ((Aa val_5.2.1 10).bind fun val => some ((val.1, ()), val.2, ())).bind fun val_6 => some ((val_4.1.1 ++ strOfNums (List.map (fun x => x.1) ((List.map (fun x => (x, ())) (Ab (Ac (Ad val_1.1.1 val_1.1.2.1) val_1.1.2.1 (nI (Ad val_1.1.1 val_1.1.2.1).size)))).set (Int.toNat val.1.1) (IntKind.u8.wrap (nI (BitVec.ofInt 8 ((List.map (fun x => (x, ())) (Ab (Ac (Ad val_1.1.1 val_1.1.2.1) val_1.1.2.1 (nI (Ad val_1.1.1 val_1.1.2.1).size)))).getD (Int.toNat val.1.1) (0, ())).1 ^^^ BitVec.ofInt 8 (IntKind.u8.wrap (IntKind.i64.wrap (1 + val_3.1.1)))).toNat), ()))), val_6.1), ()) else some ((val_4.1.1 ++ strOfNums (List.map (fun x => x.1) ((List.map (fun x => (x, ())) (Ab (Ac (Ad val_1.1.1 val_1.1.2.1) val_1.1.2.1 (nI (Ad val_1.1.1 val_1.1.2.1).size)))).set (Int.toNat val.1.1) (IntKind.u8.wrap (nI (BitVec.ofInt 8 ((List.map (fun x => (x, ())) (Ab (Ac (Ad val_1.1.1 val_1.1.2.1) val_1.1.2.1 (nI (Ad val_1.1.1 val_1.1.2.1).size)))).getD (Int.toNat val.1.1) (0, ())).1 ^^^ BitVec.ofInt 8 (IntKind.u8.wrap (IntKind.i64.wrap (1 + val_3.1.1)))).toNat), ()))), val_1.1.2), ()) else none else none else none else none else none else none else none else none else none else ((Aa val.2.1 10).bind fun val => some ((val.1, ()), val.2, ())).bind fun val => bif val.1.1 == 0 then ((Aa val.2.1 10).bind fun val => some ((val.1, ()), val.2, ())).bind fun val => some ((Ad val_1.1.1 val_1.1.2.1, val.1), ()) else some ((Ad val_1.1.1 val_1.1.2.1, val_1.1.2), ()) else ((Aa val.2.1 10).bind fun val => some ((val.1, ()), val.2, ())).bind fun val => bif val.1.1 == 0 then ((Aa val.2.1 10).bind fun val => some ((val.1, ()), val.2, ())).bind fun val => some ((Ad val_1.1.1 val_1.1.2.1, val.1), ()) else some ((Ad val_1.1.1 val_1.1.2.1, val_1.1.2), ()) else ((Aa val.2.1 10).bind fun val => some ((val.1, ()), val.2, ())).bind fun val => bif val.1.1 == 0 then ((Aa val.2.1 10).bind fun val => some ((val.1, ()), val.2, ())).bind fun val => some ((Ad val_1.1.1 val_1.1.2.1, val.1), ()) else some ((Ad val_1.1.1 val_1.1.2.1, val_1.1.2), ())
theorem Fk : ∃ f, f = @B7 := ⟨_, rfl⟩
noncomputable def m_spec_DrawReadPage := Classical.choose Fk
theorem Fl : @m_spec_DrawReadPage = @B7 := Classical.choose_spec Fk
noncomputable def sd_spec_DrawReadPage : SD := ⟨Jr, fun x => m_spec_DrawReadPage x.1⟩
theorem Zn {s : ByteArray} {r : Rd} {w : Int} (h : Se 20 r) (hs : s.size ≤ 1000) : Ar (((Aa r 6).bind fun val => some ((val.1, ()), val.2, ())).bind fun val => bif val.1.1 == 0 then (A8 w).bind fun val_2 => bif val_2.1.1 then bif nI s.size == 64 then bif decide (0 ≤ w) then bif decide (w ≤ nI s.size) then bif decide ((Ac s w (nI s.size)).size ≤ 140737488355328) then ((Aa val.2.1 (nI (List.map (fun x => (x, ())) (Ab (Ac s w (nI s.size)))).length)).bind fun val => some ((val.1, ()), val.2, ())).bind fun val => bif decide (0 ≤ val.1.1) then bif decide (val.1.1 < nI (List.map (fun x => (x, ())) (Ab (Ac s w (nI s.size)))).length) then ((Aa val.2.1 3).bind fun val => some ((val.1, ()), val.2, ())).bind fun val_3 => bif decide (0 ≤ val.1.1) then bif decide (val.1.1 < nI (List.map (fun x => (x, ())) (Ab (Ac s w (nI s.size)))).length) then bif decide (Int.toNat val.1.1 < (List.map (fun x => (x, ())) (Ab (Ac s w (nI s.size)))).length) then ((C0 (strOfNums (List.map (fun x => x.1) ((List.map (fun x => (x, ())) (Ab (Ac s w (nI s.size)))).set (Int.toNat val.1.1) (IntKind.u8.wrap (nI (BitVec.ofInt 8 ((List.map (fun x => (x, ())) (Ab (Ac s w (nI s.size)))).getD (Int.toNat val.1.1) (0, ())).1 ^^^ BitVec.ofInt 8 (IntKind.u8.wrap (IntKind.i64.wrap (1 + val_3.1.1)))).toNat), ())))) w).bind fun val => some ((val, ()), ())).bind fun val_4 => bif decide (ByteArray.size val_4.1.1 + (strOfNums (List.map (fun x => x.1) ((List.map (fun x => (x, ())) (Ab (Ac s w (nI s.size)))).set (Int.toNat val.1.1) (IntKind.u8.wrap (nI (BitVec.ofInt 8 ((List.map (fun x => (x, ())) (Ab (Ac s w (nI s.size)))).getD (Int.toNat val.1.1) (0, ())).1 ^^^ BitVec.ofInt 8 (IntKind.u8.wrap (IntKind.i64.wrap (1 + val_3.1.1)))).toNat), ())))).size ≤ 9223372036854775807) then ((Aa val_3.2.1 10).bind fun val => some ((val.1, ()), val.2, ())).bind fun val_5 => bif val_5.1.1 == 0 then ((Aa val_5.2.1 10).bind fun val => some ((val.1, ()), val.2, ())).bind fun val_6 => some ((val_4.1.1 ++ strOfNums (List.map (fun x => x.1) ((List.map (fun x => (x, ())) (Ab (Ac s w (nI s.size)))).set (Int.toNat val.1.1) (IntKind.u8.wrap (nI (BitVec.ofInt 8 ((List.map (fun x => (x, ())) (Ab (Ac s w (nI s.size)))).getD (Int.toNat val.1.1) (0, ())).1 ^^^ BitVec.ofInt 8 (IntKind.u8.wrap (IntKind.i64.wrap (1 + val_3.1.1)))).toNat), ()))), val_6.1), ()) else some ((val_4.1.1 ++ strOfNums (List.map (fun x => x.1) ((List.map (fun x => (x, ())) (Ab (Ac s w (nI s.size)))).set (Int.toNat val.1.1) (IntKind.u8.wrap (nI (BitVec.ofInt 8 ((List.map (fun x => (x, ())) (Ab (Ac s w (nI s.size)))).getD (Int.toNat val.1.1) (0, ())).1 ^^^ BitVec.ofInt 8 (IntKind.u8.wrap (IntKind.i64.wrap (1 + val_3.1.1)))).toNat), ()))), (w, ())), ()) else none else none else none else none else none else none else none else none else none else ((Aa val.2.1 10).bind fun val => some ((val.1, ()), val.2, ())).bind fun val => bif val.1.1 == 0 then ((Aa val.2.1 10).bind fun val => some ((val.1, ()), val.2, ())).bind fun val => some ((s, val.1), ()) else some ((s, (w, ())), ()) else ((Aa val.2.1 10).bind fun val => some ((val.1, ()), val.2, ())).bind fun val => bif val.1.1 == 0 then ((Aa val.2.1 10).bind fun val => some ((val.1, ()), val.2, ())).bind fun val => some ((s, val.1), ()) else some ((s, (w, ())), ()) else ((Aa val.2.1 10).bind fun val => some ((val.1, ()), val.2, ())).bind fun val => bif val.1.1 == 0 then ((Aa val.2.1 10).bind fun val => some ((val.1, ()), val.2, ())).bind fun val => some ((s, val.1), ()) else some ((s, (w, ())), ())) fun _ => True := by
 have fin : ∀ (t : ByteArray) (r' : Rd), Se 100 r' → Ar (((Aa r' 10).bind fun val => some ((val.1, ()), val.2, ())).bind fun val_4 => bif val_4.1.1 == 0 then ((Aa val_4.2.1 10).bind fun val => some ((val.1, ()), val.2, ())).bind fun val_5 => some ((t, val_5.1), ()) else some ((t, (w, ())), ())) fun _ => True := fun t r' h' => by
  refine Ax h' (by omega) (by omega) fun v r1 v0 v1 h1 => ?_
  dsimp only
  refine Ar.cond (fun _ => ?_) fun _ => Ar.some trivial
  exact Ax h1 (by omega) (by omega) fun v r1 v0 v1 h1 => Ar.some trivial
 refine Ax h (by omega) (by omega) fun v r1 v0 v1 h1 => ?_
 dsimp only
 refine Ar.cond (fun _ => ?_) fun _ => fin s r1 (h1.mono (by omega))
 rw [show A8 w = some ((Cs w 1 8, ()), ()) from wid w]
 simp only [Option.bind_some]
 refine Ar.cond (fun c => ?_) fun _ => fin s r1 (h1.mono (by omega))
 refine Ar.cond (fun c2 => ?_) fun _ => fin s r1 (h1.mono (by omega))
 obtain ⟨w1, w2⟩ := Fg c
 have c2 : nI s.size = 64 := beq_iff_eq.1 c2
 refine Ar.go (decide_eq_true (by omega)) (Ar.go (decide_eq_true (by omega)) ?_)
 have hc := Ft (s := s) (i := w) (j := nI s.size) (by omega) (by omega) (Int.le_refl _)
 refine Ar.go (decide_eq_true (by omega)) ?_
 have hB : (List.map (fun x => (x, ())) (Ab (Ac s w (nI s.size)))).length = (Ac s w (nI s.size)).size := by simp [Ab]
 generalize List.map (fun x => (x, ())) (Ab (Ac s w (nI s.size))) = B at hB ⊢
 have hn : nI B.length = 64 - w := by simp only [nI] at *; omega
 refine Ax h1 (by omega) (by omega) fun k r2 k0 k1 h2 => ?_
 dsimp only
 have k2 : k.toNat < B.length := by simp only [nI] at *; omega
 refine Ar.go (decide_eq_true k0) (Ar.go (decide_eq_true k1) ?_)
 refine Ax h2 (by omega) (by omega) fun u r3 u0 u1 h3 => ?_
 dsimp only
 refine Ar.go (decide_eq_true k0) (Ar.go (decide_eq_true k1) (Ar.go (decide_eq_true k2) ?_))
 have hz : ∀ y, (strOfNums (List.map (fun x => x.1) (B.set k.toNat y))).size = B.length := fun y => by rw [Ay, List.length_map, List.length_set]
 have hl : B.length ≤ 1000 := by simp only [nI] at *; omega
 refine Ar.bind (Q := fun q : (ByteArray × Unit) × Unit => q.1.1.size ≤ 8) ⟨_, Acl (if_pos (by rw [hz]; omega)) rfl, ?_⟩ fun q hq => ?_
 ·show (Ia _ w).size ≤ 8
  rw [E3 c]
  omega
 ·refine Ar.go (decide_eq_true (by rw [hz]; omega)) ?_
  exact fin _ r3 (h3.mono (by omega))
theorem W6 (b : List Int) (h : I3 (.sl (.int .u8)) b) : Ar (m_spec_DrawReadPage b) fun _ => True := by
 rw [Fl]
 unfold B7
 refine Ar.bind (Zj b h) fun q hq => ?_
 refine Ar.bind (Oz b h) fun q2 _ => ?_
 obtain ⟨⟨p, w, ⟨⟩⟩, r0, ⟨⟩⟩ := q2
 have hf : (Ad p w).size ≤ 64 := by
  show (An p w).size ≤ 64
  exact Rc p w
 refine Ax hq (by omega) (by omega) fun v r1 v0 v1 h1 => ?_
 dsimp only
 refine Ar.cond (fun _ => ?_) fun _ => ?_
 ·refine Ar.bind (Abb (s := Ad p w) h1 (by omega) (by omega)) fun q3 hq3 => ?_
  obtain ⟨⟨s, ⟨⟩⟩, r2, ⟨⟩⟩ := q3
  obtain ⟨z1, z2⟩ := hq3
  dsimp only at z1 z2 ⊢
  exact Zn (z2.mono (by omega)) (by omega)
 ·exact Zn (h1.mono (by omega)) (by omega)
theorem Js : Eo Try.prog 31 sd_spec_DrawReadPage :=
 Cl (pat := Ff) [] Ou (Ck (l := [(26, sd_spec_DrawFormPage), (28, sd_spec_FormPage), (62, sd_spec_l1Open), (64, sd_spec_l1Rd__pick), (72, sd_spec_l1Bend), (82, sd_spec_Sum), (86, sd_spec_l1Width)]) ⟨Fj, E8, Je, Bl, Rr, O2, Dp, trivial⟩) trivial Try.func31 (de := fun x => B7 x.1) (fun x r h => by have q : m_spec_DrawReadPage x.1 = some r := h; rw [Fl] at q; exact q) fun _ => by kernel_rfl
def Cc (s : ByteArray) : Option Int := if s.size ≤ 7 then some (Ra s) else none
def Ch (v0 : ByteArray) (v3 v4 : Int) : Nat := (nI v0.size - v4).toNat + 1
def Rs : Sig := ⟨[.rd .str], [none], [.rd tI], [none]⟩
noncomputable def sd_spec_l1Read : SD := ⟨Rs, fun x => (Cc x.1).bind fun r => some ((r, ()), (()))⟩
noncomputable def ta_spec_l1Read : Tb := tb []
def pa_spec_l1Read : Nat → Pat × (Nat → Pat) := Sc [(4, ⟨[], [(0, .lf (.d .str)), (3, .lf (.d tI)), (4, .lf (.d tI))], []⟩, [(2, ⟨[], [(3, .lf (.d tI))], []⟩)])]
noncomputable def co_spec_l1Read_4 : Code := (Bi (D9 Try.f87)).getD 0 .skip
noncomputable def Ci {R : Type}  (NX : ((ByteArray) × (Int) × (Int) × Unit) → Option R) (X2 : ((Int) × Unit) → Option R) (v0 : ByteArray) (v3 : Int) (v4 : Int) : Option R :=
 bif decide (v4 < nI v0.size) then bif decide (0 ≤ v4) then bif decide (v4 < nI v0.size) then NX (v0, IntKind.i64.wrap (IntKind.i64.wrap (v3 * 256) + IntKind.i64.wrap (Ah v0 v4)), IntKind.i64.wrap (v4 + 1), ()) else none else none else X2 (v3, ())
noncomputable def Bm : Nat → (ByteArray) → (Int) → (Int) →  Option ((Int) × Unit)
 | 0, _, _, _ => none
 | m + 1, v0, v3, v4 => Ci  (fun d => Bm m d.1 d.2.1 d.2.2.1) (fun d => some (d)) v0 v3 v4
noncomputable def Gk (a0 : ByteArray) : Option ((((Int) × Unit) × (Unit))) :=
 ((fun d => Bm (Ch d.1 d.2.1 d.2.2.1) d.1 d.2.1 d.2.2.1) (a0, 0, 0, ())).bind fun val => some (val, ())
theorem O4 (s : ByteArray) (hs : s.size ≤ 7) : ∀ (k m i : Nat) (v : Int), i + k = s.size → k < m → 0 ≤ v → v < 256 ^ i → Bm m s v i = some (Wh s k i v, ())
 | 0, m + 1, i, v, hi, hm, h0, h1 => by
  simp only [Bm, Ci]
  rw [decide_eq_false (show ¬ ((i : Int) < nI s.size) by simp only [nI]; omega)]
  rfl
 | k + 1, m + 1, i, v, hi, hm, h0, h1 => by
  obtain ⟨hb, hs', e⟩ := s7 s i hi (by omega) h0 h1
  simp only [Bm, Ci]
  have c1 : (i : Int) < nI s.size := by simp only [nI]; omega
  rw [decide_eq_true c1, decide_eq_true (show (0 : Int) ≤ (i : Int) by omega), wI (show i < 4611686018427387904 by omega), e]
  exact O4 s hs k m (i + 1) _ (by omega) (by omega) hb hs'
theorem Ru (a0 : ByteArray) r (h : Cc a0 = some r) : Gk a0 = some ((r, ()), (())) := by
 unfold Cc at h
 split at h
 ·rename_i hc
  cases h
  unfold Gk
  have hL := O4 a0 hc a0.size (Ch a0 0 0) 0 0 (by omega) (by simp only [Ch, nI]; omega) (by omega) (by decide)
  exact Wk hL rfl
 ·cases h
noncomputable def Ho {R : Type} (k : Kt R) := (y6 (pa_spec_l1Read 4) (.exit 0) 2 k)
noncomputable def Kl {R : Type} : Lt R pa_spec_l1Read := (Sb (pat := pa_spec_l1Read) 4 (fun d k => (Bm (Ch d.1 d.2.1 d.2.2.1) d.1 d.2.1 d.2.2.1).bind (Ho k)) Ou)
theorem Jt : A7 Try.prog ta_spec_l1Read := Ck trivial
theorem Oa {R : Type} : Cn Try.prog R 19 0 pa_spec_l1Read Kl co_spec_l1Read_4 :=
 Ke (cfg := ⟨ta_spec_l1Read, 0, 19, pa_spec_l1Read⟩) 4 [] (fun NX X d => Ci  NX X d.1 d.2.1 d.2.2.1) (fun m d => Bm m d.1 d.2.1 d.2.2.1) (fun d => Ch d.1 d.2.1 d.2.2.1) Ho Jt trivial (fun f NX d => by unfold Ci; simp only [Ct, De, B9, Option.bind_assoc, Option.bind_none, Option.bind_some]) (fun _ _ _ => by kernel_rfl)
theorem Rv : Eo Try.prog 87 sd_spec_l1Read :=
 Cl (pat := pa_spec_l1Read) [co_spec_l1Read_4] Kl Jt ⟨Oa, trivial⟩ Try.func87 (de := fun x => Gk x.1) (fun x r h => H9 (Ru x.1) h) fun _ => by kernel_rfl
def A9 (s : ByteArray) (w : Int) : Pg × Bool := Ea s w
def Ob : Sig := ⟨[.rd .str, .rd tI], [none, none], [.rd yPg, .rd .bool], [some 4, none]⟩
noncomputable def sd_spec_ReadPage : SD := ⟨Ob, fun x => some (((A9 x.1 x.2.1).1, (A9 x.1 x.2.1).2, ()), (()))⟩
noncomputable def Fa (a0 : ByteArray) (a1 : Int) : Option (((Pg × (Bool) × Unit) × (Unit))) :=
 (A8 a1).bind fun val => bif !val.1.1 then some (((0, 0, 0, ByteArray.mk #[], ()), false, ()), ()) else bif nI a0.size != 64 then some (((0, 0, 0, ByteArray.mk #[], ()), false, ()), ()) else bif decide (0 ≤ a1) then bif decide (a1 ≤ nI a0.size) then bif decide (7 < nI (Ac a0 a1 (nI a0.size)).size) then bif decide (IntKind.i64.wrap (Ah (Ac a0 a1 (nI a0.size)) 7) > IntKind.i64.wrap (IntKind.i64.wrap (64 - a1) - 8)) then some (((0, 0, 0, ByteArray.mk #[], ()), false, ()), ()) else bif decide (0 < nI (Ac a0 a1 (nI a0.size)).size) then bif decide (3 ≤ nI (Ac a0 a1 (nI a0.size)).size) then ((Cc (Ac (Ac a0 a1 (nI a0.size)) 1 3)).bind fun val => some ((val, ()), ())).bind fun val => bif decide (7 ≤ nI (Ac a0 a1 (nI a0.size)).size) then ((Cc (Ac (Ac a0 a1 (nI a0.size)) 3 7)).bind fun val => some ((val, ()), ())).bind fun val_1 => bif decide (8 ≤ IntKind.i64.wrap (8 + IntKind.i64.wrap (Ah (Ac a0 a1 (nI a0.size)) 7))) then bif decide (IntKind.i64.wrap (8 + IntKind.i64.wrap (Ah (Ac a0 a1 (nI a0.size)) 7)) ≤ nI (Ac a0 a1 (nI a0.size)).size) then bif !(Ad (IntKind.i64.wrap (Ah (Ac a0 a1 (nI a0.size)) 0), val.1.1, val_1.1.1, Ac (Ac a0 a1 (nI a0.size)) 8 (IntKind.i64.wrap (8 + IntKind.i64.wrap (Ah (Ac a0 a1 (nI a0.size)) 7))), ()) a1).toList == a0.toList then some (((0, 0, 0, ByteArray.mk #[], ()), false, ()), ()) else some (((IntKind.i64.wrap (Ah (Ac a0 a1 (nI a0.size)) 0), val.1.1, val_1.1.1, Ac (Ac a0 a1 (nI a0.size)) 8 (IntKind.i64.wrap (8 + IntKind.i64.wrap (Ah (Ac a0 a1 (nI a0.size)) 7))), ()), true, ()), ()) else none else none else none else none else none else none else none else none
theorem Oc (a0 : ByteArray) (a1 : Int) : Fa a0 a1 = some (((A9 a0 a1).1, (A9 a0 a1).2, ()), (())) := by
 unfold Fa A9 Ea
 refine Wk (wid a1) ?_
 show (bif !Cs a1 1 8 then _ else (bif nI a0.size != 64 then _ else _)) = _
 cases hz : nI a0.size != 64 with
 | true => cases Cs a1 1 8 <;> rfl
 | false =>
   cases hw : Cs a1 1 8 with
   | false => rfl
   | true =>
    have k1 := (Fg hw).1
    have k2 := (Fg hw).2
    have hs : a0.size = 64 := by
     by_cases q : nI a0.size = 64
     ·simp only [nI] at q; omega
     ·rw [(bne_iff_ne).2 q] at hz; cases hz
    have hb : (Ac a0 a1 (nI a0.size)).size = (64 - a1).toNat := by rw [Ca (by omega) (by simp only [nI]; omega) (by simp [nI])]; simp only [nI, hs]; omega
    simp only [Bool.not_true, cond_false, cond_true]
    rw [decide_eq_true (show (0 : Int) ≤ a1 by omega), decide_eq_true (show a1 ≤ nI a0.size by simp only [nI]; omega)]
    unfold Yb
    generalize Ac a0 a1 (nI a0.size) = b at *
    obtain ⟨b0, b1⟩ := E2 b 7
    obtain ⟨c0, c1⟩ := E2 b 0
    have hB : nI b.size = 64 - a1 := by simp only [nI]; omega
    rw [hB, decide_eq_true (show (7 : Int) < 64 - a1 by omega), decide_eq_true (show (0 : Int) < 64 - a1 by omega), decide_eq_true (show (3 : Int) ≤ 64 - a1 by omega), decide_eq_true (show (7 : Int) ≤ 64 - a1 by omega), Ai (n := Ah b 7) (by omega) (by omega), Ai (n := Ah b 0) (by omega) (by omega), Ai (n := 64 - a1) (by omega) (by omega), Ai (n := 64 - a1 - 8) (by omega) (by omega), Ai (n := 8 + Ah b 7) (by omega) (by omega), show 64 - a1 - 8 = 56 - a1 by omega]
    by_cases q : Ah b 7 > 56 - a1
    ·rw [decide_eq_true q]; rfl
    ·rw [decide_eq_false q]
     have n1 : Cc (Ac b 1 3) = some (Ra (Ac b 1 3)) := if_pos (by rw [Ca (by omega) (by omega) (by omega)]; decide)
     have n2 : Cc (Ac b 3 7) = some (Ra (Ac b 3 7)) := if_pos (by rw [Ca (by omega) (by omega) (by omega)]; decide)
     simp only [n1, n2, Option.bind_some, cond_true, cond_false]
     rw [decide_eq_true (show 8 ≤ 8 + Ah b 7 by omega), decide_eq_true (show 8 + Ah b 7 ≤ 64 - a1 by omega)]
     show (bif !(ByteArray.toList (An (Ya b) a1) == ByteArray.toList a0) then _ else _) = _
     cases (ByteArray.toList (An (Ya b) a1) == ByteArray.toList a0) <;> rfl
theorem Od : Eo Try.prog 32 sd_spec_ReadPage :=
 Cl (pat := Ff) [] Ou (Ck (l := [(28, sd_spec_FormPage), (77, sd_spec_l1Part), (86, sd_spec_l1Width), (87, sd_spec_l1Read)]) ⟨E8, Eg, Dp, Rv, trivial⟩) trivial Try.func32 (de := fun x => Fa x.1 x.2.1) (fun x r h => (Oc x.1 x.2.1).trans h) fun _ => by kernel_rfl
def O8 : Sig := ⟨[.rd (.sl (.int .u8))], [none], [.rd .bool], [none]⟩
noncomputable def Dq (a0 : List Int) : Option ((((Bool) × Unit) × (Unit))) :=
 bif decide (nI a0.length > 1048576) then some ((true, ()), ()) else (m_spec_DrawFormPage a0).bind fun val => bif !(Ag val.1.1 val.1.2.1).toList == (Ad val.1.1 val.1.2.1).toList then some ((false, ()), ()) else bif !(Ag val.1.1 val.1.2.1).toList == (ByteArray.mk #[]).toList then bif decide (0 < nI (Ag val.1.1 val.1.2.1).size) then bif decide (1 ≤ nI (Ag val.1.1 val.1.2.1).size) then bif decide ((strOfNums [IntKind.u8.wrap (nI (BitVec.ofInt 8 (Ah (Ag val.1.1 val.1.2.1) 0) ^^^ BitVec.ofInt 8 1).toNat)]).size + (Ac (Ag val.1.1 val.1.2.1) 1 (nI (Ag val.1.1 val.1.2.1).size)).size ≤ 9223372036854775807) then bif !(Al (Ag val.1.1 val.1.2.1) val.1.2.1).2 then some ((false, ()), ()) else bif !((Al (Ag val.1.1 val.1.2.1) val.1.2.1).1.1 == val.1.1.1 && ((Al (Ag val.1.1 val.1.2.1) val.1.2.1).1.2.1 == val.1.1.2.1 && ((Al (Ag val.1.1 val.1.2.1) val.1.2.1).1.2.2.1 == val.1.1.2.2.1 && (ByteArray.toList (Al (Ag val.1.1 val.1.2.1) val.1.2.1).1.2.2.2.1 == ByteArray.toList val.1.1.2.2.2.1 && true)))) then some ((false, ()), ()) else bif (Al (strOfNums [IntKind.u8.wrap (nI (BitVec.ofInt 8 (Ah (Ag val.1.1 val.1.2.1) 0) ^^^ BitVec.ofInt 8 1).toNat)] ++ Ac (Ag val.1.1 val.1.2.1) 1 (nI (Ag val.1.1 val.1.2.1).size)) val.1.2.1).2 then some ((false, ()), ()) else bif nI (Ag val.1.1 val.1.2.1).size != 64 then some ((false, ()), ()) else bif decide (0 ≤ val.1.2.1) then bif decide (val.1.2.1 ≤ nI (Ag val.1.1 val.1.2.1).size) then ((Cz (Ac (Ag val.1.1 val.1.2.1) val.1.2.1 (nI (Ag val.1.1 val.1.2.1).size)) val.1.2.1).bind fun val => some ((val, ()), ())).bind fun val_1 => bif decide (0 ≤ val.1.2.1) then bif decide (val.1.2.1 ≤ nI (Ag val.1.1 val.1.2.1).size) then bif !ByteArray.toList val_1.1.1 == (Ac (Ag val.1.1 val.1.2.1) 0 val.1.2.1).toList then some ((false, ()), ()) else (m_spec_DrawReadPage a0).bind fun val => bif (Al val.1.1 val.1.2.1).2 == (A9 val.1.1 val.1.2.1).2 then bif !(Al val.1.1 val.1.2.1).2 then some ((true, ()), ()) else some (((Ag (Al val.1.1 val.1.2.1).1 val.1.2.1).toList == ByteArray.toList val.1.1, ()), ()) else some ((false, ()), ()) else none else none else none else none else none else none else none else (m_spec_DrawReadPage a0).bind fun val => bif (Al val.1.1 val.1.2.1).2 == (A9 val.1.1 val.1.2.1).2 then bif !(Al val.1.1 val.1.2.1).2 then some ((true, ()), ()) else some (((Ag (Al val.1.1 val.1.2.1).1 val.1.2.1).toList == ByteArray.toList val.1.1, ()), ()) else some ((false, ()), ())
noncomputable def sd_laws_FnPages : SD := ⟨O8, fun x => Dq x.1⟩
theorem W7 (a0 : List Int) (h0 : I3 (.sl (.int .u8)) a0) : Dq a0 = some ((true, ()), ()) := by
 apply Ar.law
 unfold Dq
 refine Ar.cond (fun _ => Ar.some rfl) fun _ => ?_
 refine Ar.bind (Oz a0 h0) fun q _ => ?_
 obtain ⟨⟨p, w, ⟨⟩⟩, r0, ⟨⟩⟩ := q
 have e1 : Ag p w = An p w := rfl
 have e2 : Ad p w = An p w := rfl
 have e3 : ∀ s v, Al s v = Ea s v := fun _ _ => rfl
 have e4 : ∀ s v, A9 s v = Ea s v := fun _ _ => rfl
 have e5 : ∀ q v, Ag q v = An q v := fun _ _ => rfl
 dsimp only
 have tail : Ar ((m_spec_DrawReadPage a0).bind fun val =>
   bif (Al val.1.1 val.1.2.1).2 == (A9 val.1.1 val.1.2.1).2 then
    bif !(Al val.1.1 val.1.2.1).2 then some ((true, ()), ())
    else some (((Ag (Al val.1.1 val.1.2.1).1 val.1.2.1).toList == ByteArray.toList val.1.1, ()), ())
   else some ((false, ()), ())) fun q => q.1.1 = true := by
  refine Ar.bind (W6 a0 h0) fun q _ => ?_
  obtain ⟨⟨s, v, ⟨⟩⟩, ⟨⟩⟩ := q
  dsimp only
  rw [e3, e4]
  refine Ar.go (beq_self_eq_true _) (Ar.cond (fun _ => Ar.some rfl) fun c => Ar.some ?_)
  obtain ⟨q, ok, hR⟩ : ∃ q ok, Ea s v = (q, ok) := ⟨_, _, rfl⟩
  rw [hR] at c ⊢
  cases ok with
  | false => cases c
  | true =>
   dsimp only
   rw [e5, (La hR).2.2.1]
   exact beq_self_eq_true _
 refine Ar.no (by rw [e1, e2, beq_self_eq_true]; rfl) ?_
 rw [e1]
 cases hp : Be p w with
 | false =>
  have hz : An p w = ByteArray.mk #[] := by unfold An; rw [hp]; rfl
  rw [hz]
  exact Ar.no (by rw [beq_self_eq_true]; rfl) tail
 | true =>
  obtain ⟨hw, k1, k2, _⟩ := Ed hp
  have hs := d9 hp
  have hr := Fv hp
  have hb := Aa7 hp
  have hm := x5 hp
  have hsum : Cz (Ac (An p w) w (nI (An p w).size)) w = some (Ac (An p w) 0 w) := by
   have hc := Ft (s := An p w) (i := w) (j := nI (An p w).size) (by omega) (by simp only [nI]; omega) (Int.le_refl _)
   exact (if_pos (by simp only [nI] at *; omega)).trans (congrArg some hm)
  have h1 := Ft (s := An p w) (i := 1) (j := nI (An p w).size) (by omega) (by simp only [nI]; omega) (Int.le_refl _)
  refine Ar.cond (fun _ => ?_) fun _ => tail
  rw [e3, e3]
  generalize hx : strOfNums [IntKind.u8.wrap (nI (BitVec.ofInt 8 (Ah (An p w) 0) ^^^ BitVec.ofInt 8 1).toNat)] = X at hb ⊢
  have sx : X.size = 1 := by rw [← hx, Ay]; rfl
  clear hx
  rw [hr]
  refine Ar.go (decide_eq_true (by simp only [nI]; omega)) (Ar.go (decide_eq_true (by simp only [nI]; omega)) (Ar.go (decide_eq_true (by simp only [nI] at *; omega)) ?_))
  refine Ar.no rfl ?_
  refine Ar.no (by simp) ?_
  refine Ar.no hb ?_
  refine Ar.no (by rw [hs]; rfl) ?_
  have d0 : decide (0 ≤ w) = true := decide_eq_true (by omega)
  have d1 : decide (w ≤ nI (An p w).size) = true := decide_eq_true (by simp only [nI]; omega)
  refine Ar.go d0 (Ar.go d1 ?_)
  rw [hsum]
  refine Ar.go d0 (Ar.go d1 ?_)
  refine Ar.no (by dsimp only; rw [beq_self_eq_true]; rfl) ?_
  exact tail
theorem O9 : Eo Try.prog 5 sd_laws_FnPages :=
 Cl (pat := Ff) [] Ou (Ck (l := [(26, sd_spec_DrawFormPage), (27, sd_impl_FormPage), (28, sd_spec_FormPage), (29, sd_impl_ReadPage), (30, sd_impl_Sum), (31, sd_spec_DrawReadPage), (32, sd_spec_ReadPage)]) ⟨Fj, Hk, E8, N9, O1, Js, Od, trivial⟩) trivial Try.func5 (de := fun x => Dq x.1) (fun x r h => h) fun _ => by kernel_rfl
end Go.Proofs.Ytkfoebbjncngjaa.V

