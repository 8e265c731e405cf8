/- What the functions that FnBatches reaches come to: part 1. No condition. -/
import Derived.Test.YtkfoebbjncngjaaQBase
import Derived.Test.YtkfoebbjncngjaaTLay
import Derived.Test.YtkfoebbjncngjaaProg
import Derived.Test.YtkfoebbjncngjaaQS
import Derived.Test.YtkfoebbjncngjaaQD
import Derived.KernelRfl
namespace Go.Proofs.Ytkfoebbjncngjaa.V
open Go Go.Proofs.Ytkfoebbjncngjaa.R Go.Proofs
set_option maxRecDepth 100000
set_option linter.unusedVariables false
set_option linter.unusedSimpArgs false
def Rg : Sig := ⟨[.rd (.sl (.int .u8))], [none], [.bx 154 (.pair (.sl (.int .u8)) (.pair tI .unit))], [none]⟩
noncomputable def D7 (a0 : List Int) : Option (((((List Int) × Int × Unit) × Unit) × (Unit))) :=
 bif decide (nI a0.length > 2000) then bif decide (2000 ≤ nI a0.length) then some (((List.drop (Int.toNat 0) (List.take (Int.toNat 2000) a0), 0, ()), ()), ()) else none else some (((a0, 0, ()), ()), ())
theorem Jm : ∃ f, f = @D7 := ⟨_, rfl⟩
noncomputable def m_spec_l1Open := Classical.choose Jm
theorem Jn : @m_spec_l1Open = @D7 := Classical.choose_spec Jm
noncomputable def sd_spec_l1Open : SD := ⟨Rg, fun x => m_spec_l1Open x.1⟩
theorem Ym (b : List Int) (h : Ji (.sl (.int .u8)) b) : Ar (m_spec_l1Open b) fun r => Lo 0 r.1.1 := by
 obtain ⟨_, h⟩ := h
 have hb : ∀ l : List Int, (∀ x ∈ l, x ∈ b) → l.length ≤ 2000 → q8 l = true := fun l h1 h2 => by
  unfold q8
  rw [decide_eq_true h2, Bool.true_and, List.all_eq_true]
  intro x hx
  obtain ⟨i, hi, e⟩ := List.getElem_of_mem (h1 x hx)
  have q := h i x (by rw [← e]; exact List.getElem?_eq_getElem hi)
  have q : (Lit.int .u8 x).wf = true := q
  simp only [Lit.wf, Bool.and_eq_true, decide_eq_true_eq] at q
  simp only [Bool.and_eq_true, decide_eq_true_eq]
  have q1 : (0 : Int) ≤ x := q.1
  have q2 : x ≤ 255 := q.2
  omega
 rw [Jn]
 unfold D7
 refine Ar.cond (fun c => ?_) fun c => ?_
 ·simp only [decide_eq_true_eq, nI] at c
  refine Ar.go (decide_eq_true (by simp only [nI]; omega)) (Ar.some ⟨hb _ (fun x hx => List.mem_of_mem_take (List.mem_of_mem_drop hx)) ?_, Int.le_refl 0, Int.le_refl 0⟩)
  simp only [List.drop_zero, List.length_take, Int.toNat_zero]
  omega
 ·simp only [decide_eq_false_iff_not, nI] at c
  exact Ar.some ⟨hb _ (fun x hx => hx) (by show b.length ≤ 2000; omega), Int.le_refl 0, Int.le_refl 0⟩
theorem Jo : Ff Try.prog 62 sd_spec_l1Open :=
 C8 (pat := Jh) [] Q7 (Dg (l := []) trivial) trivial Try.func62 (de := fun x => D7 x.1) (fun x r h => by have q : m_spec_l1Open x.1 = some r := h; rw [Jn] at q; exact q) fun _ => by kernel_rfl
def Mn (b : List Int) (p : Int) : Int := IntKind.i64.wrap (IntKind.i64.wrap (IntKind.i64.wrap (IntKind.i64.wrap (IntKind.i64.wrap (b.getD (p.tmod (nI b.length)).toNat 0) * 131) + IntKind.i64.wrap (IntKind.i64.wrap (b.getD ((IntKind.i64.wrap (IntKind.i64.wrap (p * 7) + 3)).tmod (nI b.length)).toNat 0) * 1117)) + IntKind.i64.wrap (p * 29)) + IntKind.i64.wrap (IntKind.i64.wrap (p.tdiv (nI b.length)) * 53))
def Rh (b : List Int) (p n : Int) : Int := bif decide (n < 1) then 0 else bif nI b.length == 0 then 0 else bif decide (p < nI b.length) then (IntKind.i64.wrap (b.getD p.toNat 0)).tmod n else
 (IntKind.i64.wrap (nI (BitVec.ofInt 64 (Mn b p) ^^^ BitVec.ofInt 64 (IntKind.i64.wrap ((Mn b p).tdiv 64))).toNat)).tmod n
theorem Yn : ∃ f : Rd → Int → Option (Int × Rd), f = fun r n => if q8 r.1 = true ∧ 0 ≤ r.2.1 ∧ r.2.1 < 1099511627776 then some (Rh r.1 r.2.1 n, (r.1, r.2.1 + 1, ())) else none := ⟨_, rfl⟩
noncomputable def Ac (r : Rd) (n : Int) : Option (Int × Rd) := Classical.choose Yn r n
theorem Yo (r : Rd) (n : Int) : Ac r n = if q8 r.1 = true ∧ 0 ≤ r.2.1 ∧ r.2.1 < 1099511627776 then some (Rh r.1 r.2.1 n, (r.1, r.2.1 + 1, ())) else none := by
 unfold Ac
 rw [Classical.choose_spec Yn]
def Lc : Sig := ⟨[.bx 154 (.pair (.sl (.int .u8)) (.pair tI .unit)), .rd tI], [none, none], [.rd tI], [none]⟩
noncomputable def sd_spec_l1Rd__pick : SD := ⟨Lc, fun x => (Ac x.1 x.2.1).bind fun r => some ((r.1, ()), (r.2, ()))⟩
noncomputable def Ds (a0 : (List Int) × Int × Unit) (a1 : Int) : Option ((((Int) × Unit) × (((List Int) × Int × Unit) × Unit))) :=
 bif decide (a1 < 1) then some ((0, ()), (a0.1, IntKind.i64.wrap (a0.2.1 + 1), ()), ()) else bif nI (List.length a0.1) == 0 then some ((0, ()), (a0.1, IntKind.i64.wrap (a0.2.1 + 1), ()), ()) else bif decide (IntKind.i64.wrap (IntKind.i64.wrap (a0.2.1 + 1) - 1) < nI (List.length a0.1)) then bif decide (0 ≤ IntKind.i64.wrap (IntKind.i64.wrap (a0.2.1 + 1) - 1)) then bif decide (IntKind.i64.wrap (IntKind.i64.wrap (a0.2.1 + 1) - 1) < nI (List.length a0.1)) then bif !decide (a1 = 0) then some (((IntKind.i64.wrap (List.getD a0.1 (IntKind.i64.wrap (IntKind.i64.wrap (a0.2.1 + 1) - 1)).toNat 0)).tmod a1, ()), (a0.1, IntKind.i64.wrap (a0.2.1 + 1), ()), ()) else none else none else none else bif !decide (nI (List.length a0.1) = 0) then bif decide (0 ≤ (IntKind.i64.wrap (IntKind.i64.wrap (a0.2.1 + 1) - 1)).tmod (nI (List.length a0.1))) then bif decide ((IntKind.i64.wrap (IntKind.i64.wrap (a0.2.1 + 1) - 1)).tmod (nI (List.length a0.1)) < nI (List.length a0.1)) then bif !decide (nI (List.length a0.1) = 0) then bif decide (0 ≤ (IntKind.i64.wrap (IntKind.i64.wrap (IntKind.i64.wrap (IntKind.i64.wrap (a0.2.1 + 1) - 1) * 7) + 3)).tmod (nI (List.length a0.1))) then bif decide ((IntKind.i64.wrap (IntKind.i64.wrap (IntKind.i64.wrap (IntKind.i64.wrap (a0.2.1 + 1) - 1) * 7) + 3)).tmod (nI (List.length a0.1)) < nI (List.length a0.1)) then bif !decide (nI (List.length a0.1) = 0) then bif !decide (a1 = 0) then some (((IntKind.i64.wrap (nI (BitVec.ofInt 64 (IntKind.i64.wrap (IntKind.i64.wrap (IntKind.i64.wrap (IntKind.i64.wrap (IntKind.i64.wrap (List.getD a0.1 ((IntKind.i64.wrap (IntKind.i64.wrap (a0.2.1 + 1) - 1)).tmod (nI (List.length a0.1))).toNat 0) * 131) + IntKind.i64.wrap (IntKind.i64.wrap (List.getD a0.1 ((IntKind.i64.wrap (IntKind.i64.wrap (IntKind.i64.wrap (IntKind.i64.wrap (a0.2.1 + 1) - 1) * 7) + 3)).tmod (nI (List.length a0.1))).toNat 0) * 1117)) + IntKind.i64.wrap (IntKind.i64.wrap (IntKind.i64.wrap (a0.2.1 + 1) - 1) * 29)) + IntKind.i64.wrap (IntKind.i64.wrap ((IntKind.i64.wrap (IntKind.i64.wrap (a0.2.1 + 1) - 1)).tdiv (nI (List.length a0.1))) * 53))) ^^^ BitVec.ofInt 64 (IntKind.i64.wrap ((IntKind.i64.wrap (IntKind.i64.wrap (IntKind.i64.wrap (IntKind.i64.wrap (IntKind.i64.wrap (List.getD a0.1 ((IntKind.i64.wrap (IntKind.i64.wrap (a0.2.1 + 1) - 1)).tmod (nI (List.length a0.1))).toNat 0) * 131) + IntKind.i64.wrap (IntKind.i64.wrap (List.getD a0.1 ((IntKind.i64.wrap (IntKind.i64.wrap (IntKind.i64.wrap (IntKind.i64.wrap (a0.2.1 + 1) - 1) * 7) + 3)).tmod (nI (List.length a0.1))).toNat 0) * 1117)) + IntKind.i64.wrap (IntKind.i64.wrap (IntKind.i64.wrap (a0.2.1 + 1) - 1) * 29)) + IntKind.i64.wrap (IntKind.i64.wrap ((IntKind.i64.wrap (IntKind.i64.wrap (a0.2.1 + 1) - 1)).tdiv (nI (List.length a0.1))) * 53))).tdiv 64))).toNat)).tmod a1, ()), (a0.1, IntKind.i64.wrap (a0.2.1 + 1), ()), ()) else none else none else none else none else none else none else none else none
theorem j9 {b : List Int} {p : Int} (hb : q8 b = true) (h0 : 0 ≤ p) (h1 : p < 1099511627776) (hn : 0 < b.length) : 0 ≤ Mn b p ∧ Mn b p < 1125899906842624 := by
 have c1 := Xg hb (p.tmod (nI b.length)).toNat
 have c2 := Xg hb ((IntKind.i64.wrap (IntKind.i64.wrap (p * 7) + 3)).tmod (nI b.length)).toNat
 have c3 : 0 ≤ p.tdiv (nI b.length) ∧ p.tdiv (nI b.length) ≤ p := by
  rw [Int.tdiv_eq_ediv_of_nonneg h0]
  exact ⟨Int.ediv_nonneg h0 (by simp [nI]), Int.ediv_le_self _ h0⟩
 unfold Mn
 generalize b.getD (p.tmod (nI b.length)).toNat 0 = x at *
 generalize b.getD ((IntKind.i64.wrap (IntKind.i64.wrap (p * 7) + 3)).tmod (nI b.length)).toNat 0 = y at *
 generalize p.tdiv (nI b.length) = z at *
 rw [At (n := x) (by omega) (by omega), At (n := y) (by omega) (by omega), At (n := z) (by omega) (by omega), At (n := y * 1117) (by omega) (by omega), At (n := x * 131) (by omega) (by omega), At (n := p * 29) (by omega) (by omega), At (n := z * 53) (by omega) (by omega), At (n := x * 131 + y * 1117) (by omega) (by omega), At (n := x * 131 + y * 1117 + p * 29) (by omega) (by omega), At (by omega) (by omega)]
 omega
theorem k7 {b : List Int} {p n : Int} (hb : q8 b = true) (h0 : 0 ≤ p) (h1 : p < 1099511627776) : 0 ≤ Rh b p n ∧ (1 ≤ n → Rh b p n < n) ∧ (n < 1 → Rh b p n = 0) := by
 unfold Rh
 by_cases hn : n < 1
 ·rw [decide_eq_true hn]
  exact ⟨Int.le_refl 0, fun q => by omega, fun _ => rfl⟩
 ·rw [decide_eq_false hn, cond_false]
  refine ⟨?_, fun _ => ?_, fun q => absurd q hn⟩
  all_goals
   by_cases hl : b.length = 0
   ·rw [show (nI b.length == 0) = true by simp [nI, hl]]
    simp only [cond_true]
    omega
   ·rw [show (nI b.length == 0) = false by simp only [nI, beq_eq_false_iff_ne]; omega, cond_false]
    by_cases hp : p < nI b.length
    ·rw [decide_eq_true hp, cond_true]
     have c := Xg hb p.toNat
     rw [At (by omega) (by omega)]
     have := Pp (x := b.getD p.toNat 0) (n := n) c.1 (by omega)
     omega
    ·rw [decide_eq_false hp, cond_false]
     obtain ⟨x0, x1⟩ := j9 hb h0 h1 (by omega)
     have t : 0 ≤ (Mn b p).tdiv 64 ∧ (Mn b p).tdiv 64 ≤ Mn b p := by
      rw [Int.tdiv_eq_ediv_of_nonneg x0]
      omega
     rw [At (n := (Mn b p).tdiv 64) (by omega) (by omega)]
     have := Pp (n := n) (Zj x0 (by omega) t.1 (by omega)) (by omega)
     omega
theorem Yp {k : Nat} {r : Rd} (n : Int) (h : Lo k r) (hk : k < 1099511627776) : ∃ v, Ac r n = some (v, (r.1, r.2.1 + 1, ())) ∧ 0 ≤ v ∧ (1 ≤ n → v < n) ∧ (n < 1 → v = 0) ∧ Lo (k + 1) (r.1, r.2.1 + 1, ()) := by
 obtain ⟨h1, h2, h3⟩ := h
 have hn := k7 (n := n) h1 h2 (by omega)
 exact ⟨_, by rw [Yo, if_pos ⟨h1, h2, by omega⟩], hn.1, hn.2.1, hn.2.2, h1, by show 0 ≤ r.2.1 + 1; omega, by show r.2.1 + 1 ≤ ((k + 1 : Nat) : Int); omega⟩
theorem A4 {α : Type} {k : Nat} {r : Rd} {n : Int} {f : (Int × Unit) × Rd × Unit → Option α} {S : α → Prop} (h : Lo k r) (hk : k < 1099511627776) (hn : 1 ≤ n) (q : ∀ v r', 0 ≤ v → v < n → Lo (k + 1) r' → Ar (f ((v, ()), r', ())) S) :
  Ar (((Ac r n).bind fun val => some ((val.1, ()), val.2, ())).bind f) S := by
 obtain ⟨v, e, v0, v1, _, h'⟩ := Yp n h hk
 rw [e]
 exact q v _ v0 (v1 hn) h'
theorem Zn {α : Type} {k : Nat} {r : Rd} {n : Int} {f : (Int × Unit) × Rd × Unit → Option α} {S : α → Prop} (h : Lo k r) (hk : k < 1099511627776) (q : ∀ v r', 0 ≤ v → (1 ≤ n → v < n) → (n < 1 → v = 0) → Lo (k + 1) r' → Ar (f ((v, ()), r', ())) S) :
  Ar (((Ac r n).bind fun val => some ((val.1, ()), val.2, ())).bind f) S := by
 obtain ⟨v, e, v0, v1, v2, h'⟩ := Yp n h hk
 rw [e]
 exact q v _ v0 v1 v2 h'
theorem Ld (a0 : (List Int) × Int × Unit) (a1 : Int) r (h : Ac a0 a1 = some r) : Ds a0 a1 = some ((r.1, ()), (r.2, ())) := by
 rw [Yo] at h
 split at h
 ·rename_i hc
  obtain ⟨hb, h0, h1⟩ := hc
  cases h
  unfold Ds
  have e1 : IntKind.i64.wrap (a0.2.1 + 1) = a0.2.1 + 1 := At (by omega) (by omega)
  have e2 : IntKind.i64.wrap (a0.2.1 + 1 - 1) = a0.2.1 := by rw [At (by omega) (by omega)]; omega
  simp only [e1, e2]
  unfold Rh
  by_cases hn : a1 < 1
  ·rw [decide_eq_true hn]; rfl
  ·rw [decide_eq_false hn]
   have hn0 : decide (a1 = 0) = false := decide_eq_false (by omega)
   simp only [cond_false]
   by_cases hl : a0.1.length = 0
   ·rw [show (nI a0.1.length == 0) = true by simp [nI, hl]]; rfl
   ·rw [show (nI a0.1.length == 0) = false by simp only [nI, beq_eq_false_iff_ne]; omega]
    have hl0 : decide (nI a0.1.length = 0) = false := decide_eq_false (by simp only [nI]; omega)
    simp only [cond_false]
    by_cases hp : a0.2.1 < nI a0.1.length
    ·rw [decide_eq_true hp, decide_eq_true h0, hn0]; rfl
    ·have t1 := Pp (n := nI a0.1.length) h0 (by simp only [nI]; omega)
     have w7 : IntKind.i64.wrap (IntKind.i64.wrap (a0.2.1 * 7) + 3) = a0.2.1 * 7 + 3 := by rw [At (n := a0.2.1 * 7) (by omega) (by omega), At (by omega) (by omega)]
     have t2 := Pp (x := a0.2.1 * 7 + 3) (n := nI a0.1.length) (by omega) (by simp only [nI]; omega)
     rw [← w7] at t2
     rw [decide_eq_false hp, hl0, hn0, decide_eq_true t1.1, decide_eq_true t1.2, decide_eq_true t2.1, decide_eq_true t2.2]
     rfl
 ·cases h
theorem Br : Ff Try.prog 64 sd_spec_l1Rd__pick :=
 C8 (pat := Jh) [] Q7 (Dg (l := []) trivial) trivial Try.func64 (de := fun x => Ds x.1 x.2.1) (fun x r h => Uo (Ld x.1 x.2.1) h) fun _ => by kernel_rfl
def Dd (v0 : ByteArray) (v1 : Int) (v5 : ByteArray) : Nat := v1.toNat + 1
def Ri : Sig := ⟨[.rd .str, .rd tI], [none, none], [.rd .str], [none]⟩
noncomputable def ta_spec_l1Many : Tb := tb []
def pa_spec_l1Many : Nat → Pat × (Nat → Pat) := Ns [(3, ⟨[], [(0, .lf (.d .str)), (1, .lf (.d tI)), (5, .lf (.d .str))], []⟩, [(2, ⟨[], [(5, .lf (.d .str))], []⟩)])]
noncomputable def co_spec_l1Many_3 : Code := (Bg (Dh Try.f73)).getD 0 .skip
noncomputable def De {R : Type}  (NX : ((ByteArray) × (Int) × (ByteArray) × Unit) → Option R) (X2 : ((ByteArray) × Unit) → Option R) (v0 : ByteArray) (v1 : Int) (v5 : ByteArray) : Option R :=
 bif decide (v1 > 0) then bif v1.tmod 2 == 1 then bif decide (v5.size + v0.size ≤ 9223372036854775807) then bif decide (v0.size + v0.size ≤ 9223372036854775807) then NX (v0 ++ v0, IntKind.i64.wrap (v1.tdiv 2), v5 ++ v0, ()) else none else none else bif decide (v0.size + v0.size ≤ 9223372036854775807) then NX (v0 ++ v0, IntKind.i64.wrap (v1.tdiv 2), v5, ()) else none else X2 (v5, ())
noncomputable def B6 : Nat → (ByteArray) → (Int) → (ByteArray) →  Option ((ByteArray) × Unit)
 | 0, _, _, _ => none
 | m + 1, v0, v1, v5 => De  (fun d => B6 m d.1 d.2.1 d.2.2.1) (fun d => some (d)) v0 v1 v5
noncomputable def D8 (a0 : ByteArray) (a1 : Int) : Option ((((ByteArray) × Unit) × (Unit))) :=
 ((fun d => B6 (Dd d.1 d.2.1 d.2.2.1) d.1 d.2.1 d.2.2.1) (a0, a1, ByteArray.mk #[], ())).bind fun val => some (val, ())
theorem Jp : ∃ f, f = @D8 := ⟨_, rfl⟩
noncomputable def m_spec_l1Many := Classical.choose Jp
theorem Jq : @m_spec_l1Many = @D8 := Classical.choose_spec Jp
noncomputable def sd_spec_l1Many : SD := ⟨Ri, fun x => m_spec_l1Many x.1 x.2.1⟩
theorem Nw : ∀ (m n : Nat) (v0 v5 : ByteArray), n < m → n < 1099511627776 → v5.size + v0.size * n ≤ 1099511627776 → Ar (B6 m v0 n v5) fun r => r.1.size = v5.size + v0.size * n
 | 0, n, v0, v5, h, _, _ => by omega
 | m + 1, n, v0, v5, h, hn, ht => by
  simp only [B6, De]
  refine Ar.cond (fun c => ?_) fun c => ?_
  ·have hp : 0 < n := by simpa using c
   have e : v0.size * n = 2 * (v0.size * (n / 2)) + v0.size * (n % 2) := by
    conv => lhs; rw [← Nat.div_add_mod n 2]
    rw [Nat.mul_add, Nat.mul_left_comm]
   have e' : (v0.size + v0.size) * (n / 2) = 2 * (v0.size * (n / 2)) := by rw [Nat.add_mul]; omega
   have hle : v0.size ≤ v0.size * n := Nat.le_mul_of_pos_right _ hp
   have e1 : IntKind.i64.wrap (Int.tdiv (n : Int) 2) = ((n / 2 : Nat) : Int) := by
    rw [Int.tdiv_eq_ediv_of_nonneg (by omega), At (by omega) (by omega)]
    rfl
   have e2 : (Int.tmod (n : Int) 2 == 1) = decide (n % 2 = 1) := by
    rw [Int.tmod_eq_emod_of_nonneg (by omega)]
    by_cases q : n % 2 = 1
    ·rw [decide_eq_true q]; simp; omega
    ·rw [decide_eq_false q]; simp; omega
   rw [e1, e2]
   refine Ar.cond (fun c => ?_) fun c => ?_
   ·rw [of_decide_eq_true c, Nat.mul_one] at e
    refine Ar.go (decide_eq_true (by omega)) (Ar.go (decide_eq_true (by omega)) ?_)
    refine (Nw m (n / 2) (v0 ++ v0) (v5 ++ v0) (by omega) (by omega) (by simp only [ByteArray.size_append]; omega)).mono fun r q => ?_
    simp only [ByteArray.size_append] at q
    omega
   ·have c := of_decide_eq_false c
    rw [show n % 2 = 0 by omega, Nat.mul_zero] at e
    refine Ar.go (decide_eq_true (by omega)) ?_
    refine (Nw m (n / 2) (v0 ++ v0) v5 (by omega) (by omega) (by simp only [ByteArray.size_append]; omega)).mono fun r q => ?_
    simp only [ByteArray.size_append] at q
    omega
  ·have : n = 0 := by simpa using c
   subst this
   exact Ar.some (by simp)
theorem Pq (s : ByteArray) (n : Int) (h0 : 0 ≤ n) (h1 : n ≤ 10000) (hs : s.size ≤ 10000) : Ar (m_spec_l1Many s n) fun r => r.1.1.size = s.size * n.toNat := by
 obtain ⟨k, rfl⟩ : ∃ k : Nat, n = (k : Int) := ⟨n.toNat, by omega⟩
 rw [Jq]
 unfold D8
 have hk : s.size * k ≤ 10000 * 10000 := Nat.mul_le_mul hs (by omega)
 refine Ar.bind (Nw _ k s (ByteArray.mk #[]) (by simp [Dd]) (by omega) (by show 0 + s.size * k ≤ _; omega)) fun r q => Ar.some ?_
 rw [Int.toNat_natCast]
 exact q.trans (Nat.zero_add _)
noncomputable def Hs {R : Type} (k : Kt R) := (V3 (pa_spec_l1Many 3) (.exit 0) 2 k)
noncomputable def Kq {R : Type} : Lt R pa_spec_l1Many := (Oq (pat := pa_spec_l1Many) 3 (fun d k => (B6 (Dd d.1 d.2.1 d.2.2.1) d.1 d.2.1 d.2.2.1).bind (Hs k)) Q7)
theorem Jr : A3 Try.prog ta_spec_l1Many := Dg trivial
theorem Nx {R : Type} : Cm Try.prog R 20 0 pa_spec_l1Many Kq co_spec_l1Many_3 :=
 Ir (cfg := ⟨ta_spec_l1Many, 0, 20, pa_spec_l1Many⟩) 3 [] (fun NX X d => De  NX X d.1 d.2.1 d.2.2.1) (fun m d => B6 m d.1 d.2.1 d.2.2.1) (fun d => Dd d.1 d.2.1 d.2.2.1) Hs Jr trivial (fun f NX d => by unfold De; simp only [Ch, C1, B1, Option.bind_assoc, Option.bind_none, Option.bind_some]) (fun _ _ _ => by kernel_rfl)
theorem Ga : Ff Try.prog 73 sd_spec_l1Many :=
 C8 (pat := pa_spec_l1Many) [co_spec_l1Many_3] Kq Jr ⟨Nx, trivial⟩ Try.func73 (de := fun x => D8 x.1 x.2.1) (fun x r h => by have q : m_spec_l1Many x.1 x.2.1 = some r := h; rw [Jq] at q; exact q) fun _ => by kernel_rfl
def Ca (v3 : ByteArray) (v4 : Int) (b0 : (List Int) × Int × Unit) : Nat := v4.toNat + 1
def Le : Sig := ⟨[.bx 154 (.pair (.sl (.int .u8)) (.pair tI .unit))], [none], [.rd .str], [none]⟩
noncomputable def ta_spec_l1DrawText : Tb := tb [(64, sd_spec_l1Rd__pick), (73, sd_spec_l1Many)]
def pa_spec_l1DrawText : Nat → Pat × (Nat → Pat) := Ns [(13, ⟨[], [(0, .lf (.ptr 0 0)), (3, .lf (.d .str)), (4, .lf (.d tI))], [.box 154 [.d (.pair (.sl (.int .u8)) (.pair tI .unit))]]⟩, [(3, ⟨[], [(3, .lf (.d .str))], [.box 154 [.d (.pair (.sl (.int .u8)) (.pair tI .unit))]]⟩)])]
noncomputable def co_spec_l1DrawText_13 : Code := (Bg (Dh Try.f117)).getD 0 .skip
noncomputable def Cb {R : Type}  (NX : ((ByteArray) × (Int) × ((List Int) × Int × Unit) × Unit) → Option R) (X3 : ((ByteArray) × ((List Int) × Int × Unit) × Unit) → Option R) (v3 : ByteArray) (v4 : Int) (b0 : (List Int) × Int × Unit) : Option R :=
 bif decide (v4 > 0) then ((Ac b0 4).bind fun val => some ((val.1, ()), val.2, ())).bind fun val => bif decide (0 ≤ val.1.1) then bif decide (val.1.1 ≤ nI (ByteArray.mk #[97, 98, 99, 100]).size) then bif decide (1 ≤ nI (Ab (ByteArray.mk #[97, 98, 99, 100]) val.1.1 (nI (ByteArray.mk #[97, 98, 99, 100]).size)).size) then bif decide (v3.size + (Ab (Ab (ByteArray.mk #[97, 98, 99, 100]) val.1.1 (nI (ByteArray.mk #[97, 98, 99, 100]).size)) 0 1).size ≤ 9223372036854775807) then NX (v3 ++ Ab (Ab (ByteArray.mk #[97, 98, 99, 100]) val.1.1 (nI (ByteArray.mk #[97, 98, 99, 100]).size)) 0 1, IntKind.i64.wrap (v4 - 1), val.2) else none else none else none else none else X3 (v3, b0, ())
noncomputable def Bc : Nat → (ByteArray) → (Int) → ((List Int) × Int × Unit) →  Option ((ByteArray) × ((List Int) × Int × Unit) × Unit)
 | 0, _, _, _ => none
 | m + 1, v3, v4, b0 => Cb  (fun d => Bc m d.1 d.2.1 d.2.2.1) (fun d => some (d)) v3 v4 b0
noncomputable def Cy (a0 : (List Int) × Int × Unit) : Option ((((ByteArray) × Unit) × (((List Int) × Int × Unit) × Unit))) :=
 ((Ac a0 8).bind fun val => some ((val.1, ()), val.2, ())).bind fun val => bif val.1.1 == 0 then some ((ByteArray.mk #[], ()), val.2) else bif val.1.1 == 1 then some ((ByteArray.mk #[0, 255], ()), val.2) else bif val.1.1 == 2 then ((Ac val.2.1 21).bind fun val => some ((val.1, ()), val.2, ())).bind fun val => (m_spec_l1Many (ByteArray.mk #[108, 111, 110, 103]) (IntKind.i64.wrap (5 + val.1.1))).bind fun val_1 => some (val_1.1, val.2) else bif val.1.1 == 3 then some ((ByteArray.mk #[45], ()), val.2) else ((Ac val.2.1 4).bind fun val => some ((val.1, ()), val.2, ())).bind fun val => ((fun d => Bc (Ca d.1 d.2.1 d.2.2.1) d.1 d.2.1 d.2.2.1) (ByteArray.mk #[], IntKind.i64.wrap (1 + val.1.1), val.2)).bind fun val => some ((val.1, ()), val.2)
theorem Gb : ∃ f, f = @Cy := ⟨_, rfl⟩
noncomputable def m_spec_l1DrawText := Classical.choose Gb
theorem Gc : @m_spec_l1DrawText = @Cy := Classical.choose_spec Gb
noncomputable def sd_spec_l1DrawText : SD := ⟨Le, fun x => m_spec_l1DrawText x.1⟩
theorem Te : ∀ (m n : Nat) (k : Nat) (v3 : ByteArray) (r : Rd), n < m → n ≤ 10 → v3.size + n ≤ 100 → Lo k r → k + n < 1099511627776 → Ar (Bc m v3 n r) fun q => q.1.size ≤ 100 ∧ Lo (k + n) q.2.1
 | 0, n, k, v3, r, h, _, _, _, _ => by omega
 | m + 1, n, k, v3, r, h, hn, hs, hr, hk => by
  simp only [Bc, Cb]
  refine Ar.cond (fun c => ?_) fun c => ?_
  ·have hp : 0 < n := by simpa using c
   refine A4 hr (by omega) (by omega) fun v r' v0 v1 h' => ?_
   have sz : ((ByteArray.mk #[97, 98, 99, 100]).size : Int) = 4 := rfl
   have e1 := G0 (s := ByteArray.mk #[97, 98, 99, 100]) v0 (show v ≤ nI (ByteArray.mk #[97, 98, 99, 100]).size by simp only [nI, sz]; omega) (Int.le_refl _)
   have e2 := G0 (s := Ab (ByteArray.mk #[97, 98, 99, 100]) v (nI (ByteArray.mk #[97, 98, 99, 100]).size)) (i := 0) (j := 1) (by omega) (by omega) (by simp only [nI, sz] at e1 ⊢; omega)
   refine Ar.go (decide_eq_true v0) (Ar.go (decide_eq_true (show v ≤ _ by simp only [nI, sz]; omega)) (Ar.go (decide_eq_true (show 1 ≤ nI (Ab (ByteArray.mk #[97, 98, 99, 100]) v (nI (ByteArray.mk #[97, 98, 99, 100]).size)).size by simp only [nI, sz] at e1 ⊢; omega)) (Ar.go (decide_eq_true (show v3.size + (Ab (Ab (ByteArray.mk #[97, 98, 99, 100]) v (nI (ByteArray.mk #[97, 98, 99, 100]).size)) 0 1).size ≤ _ by omega)) ?_)))
   have ew : IntKind.i64.wrap ((n : Int) - 1) = ((n - 1 : Nat) : Int) := by rw [At (by omega) (by omega)]; omega
   rw [ew]
   refine (Te m (n - 1) (k + 1) (v3 ++ Ab (Ab (ByteArray.mk #[97, 98, 99, 100]) v (nI (ByteArray.mk #[97, 98, 99, 100]).size)) 0 1) r' (by omega) (by omega) (by rw [ByteArray.size_append]; omega) h' (by omega)).mono fun q hq => ⟨hq.1, ?_⟩
   rw [show k + 1 + (n - 1) = k + n by omega] at hq
   exact hq.2
  ·have : n = 0 := by simpa using c
   subst this
   exact Ar.some ⟨by show v3.size ≤ 100; omega, hr⟩
theorem q9 {k : Nat} {r : Rd} (h : Lo k r) (hk : k + 10 < 1099511627776) : Ar (m_spec_l1DrawText r) fun q => q.1.1.size ≤ 100 ∧ Lo (k + 10) q.2.1 := by
 rw [Gc]
 unfold Cy
 refine A4 h (by omega) (by omega) fun v r' v0 v1 h1 => ?_
 refine Ar.cond (fun _ => Ar.some ⟨Nat.zero_le _, h1.mono (by omega)⟩) fun _ => Ar.cond (fun _ => Ar.some ⟨by show 2 ≤ 100; omega, h1.mono (by omega)⟩) fun _ => Ar.cond (fun _ => ?_) fun _ => Ar.cond (fun _ => Ar.some ⟨by show 1 ≤ 100; omega, h1.mono (by omega)⟩) fun _ => ?_
 ·dsimp only
  refine A4 h1 (by omega) (by omega) fun v2 r2 w0 w1 h2 => ?_
  dsimp only
  have ew : IntKind.i64.wrap (5 + v2) = 5 + v2 := At (by omega) (by omega)
  simp only [ew]
  refine Ar.bind (Pq (ByteArray.mk #[108, 111, 110, 103]) (5 + v2) (by omega) (by omega) (by decide)) fun q hq => Ar.some ⟨?_, h2.mono (by omega)⟩
  show q.1.1.size ≤ 100
  rw [hq]
  show 4 * _ ≤ 100
  omega
 ·dsimp only
  refine A4 h1 (by omega) (by omega) fun v2 r2 w0 w1 h2 => ?_
  dsimp only
  have ew : IntKind.i64.wrap (1 + v2) = ((1 + v2).toNat : Int) := by rw [At (by omega) (by omega)]; omega
  simp only [ew]
  refine Ar.bind (Te _ (1 + v2).toNat (k + 2) (ByteArray.mk #[]) r2 (by simp only [Ca]; omega) (by omega) (by show 0 + _ ≤ 100; omega) h2 (by omega)) fun q hq => Ar.some ⟨hq.1, hq.2.mono (by omega)⟩
noncomputable def Ep {R : Type} (k : Kt R) := (V3 (pa_spec_l1DrawText 13) (.exit 1) 3 k)
noncomputable def G1 {R : Type} : Lt R pa_spec_l1DrawText := (Oq (pat := pa_spec_l1DrawText) 13 (fun d k => (Bc (Ca d.1 d.2.1 d.2.2.1) d.1 d.2.1 d.2.2.1).bind (Ep k)) Q7)
theorem Gd : A3 Try.prog ta_spec_l1DrawText := Dg ⟨Br, Ga, trivial⟩
theorem Iu {R : Type} : Cm Try.prog R 33 1 pa_spec_l1DrawText G1 co_spec_l1DrawText_13 :=
 Ir (cfg := ⟨ta_spec_l1DrawText, 1, 33, pa_spec_l1DrawText⟩) 13 [] (fun NX X d => Cb  NX X d.1 d.2.1 d.2.2.1) (fun m d => Bc m d.1 d.2.1 d.2.2.1) (fun d => Ca d.1 d.2.1 d.2.2.1) Ep Gd trivial (fun f NX d => by unfold Cb; simp only [Ch, C1, B1, Option.bind_assoc, Option.bind_none, Option.bind_some]) (fun _ _ _ => by kernel_rfl)
theorem Lg : Ff Try.prog 117 sd_spec_l1DrawText :=
 C8 (pat := pa_spec_l1DrawText) [co_spec_l1DrawText_13] G1 Gd ⟨Iu, trivial⟩ Try.func117 (de := fun x => Cy x.1) (fun x r h => by have q : m_spec_l1DrawText x.1 = some r := h; rw [Gc] at q; exact q) fun _ => by kernel_rfl
def Kb : Sig := ⟨[.bx 154 (.pair (.sl (.int .u8)) (.pair tI .unit))], [none], [.own 90 Bs], [none]⟩
noncomputable def ta_spec_l4DrawBatch : Tb := tb [(64, sd_spec_l1Rd__pick), (117, sd_spec_l1DrawText)]
def pa_spec_l4DrawBatch : Nat → Pat × (Nat → Pat) := Ns [(7, ⟨[.row 3 0 90 Bs], [(0, .lf (.ptr 0 0)), (3, .lf (.row 1)), (4, .lf (.d tI)), (5, .lf (.d tI))], [.box 154 [.d (.pair (.sl (.int .u8)) (.pair tI .unit))], .row 90 Bs]⟩, [(2, ⟨[.row 3 0 90 Bs], [(3, .lf (.row 1))], [.box 154 [.d (.pair (.sl (.int .u8)) (.pair tI .unit))], .row 90 Bs]⟩)])]
noncomputable def co_spec_l4DrawBatch_7 : Code := (Bg (Dh Try.f63)).getD 0 .skip
def Bd (v4 : Int) (v5 : Int) (b0 : (List Int) × Int × Unit) (r1 : List Chg) : Nat := (v4 - v5).toNat + 1
noncomputable def Cc {R : Type}  (NX : ((Int) × (Int) × ((List Int) × Int × Unit) × (List Chg) × Unit) → Option R) (X2 : (((List Int) × Int × Unit) × (List Chg) × Unit) → Option R) (v4 : Int) (v5 : Int) (b0 : (List Int) × Int × Unit) (r1 : List Chg) : Option R :=
 bif decide (v5 < v4) then ((Ac b0 8).bind fun val => some ((val.1, ()), val.2, ())).bind fun val => bif decide (0 ≤ val.1.1) then bif decide (val.1.1 ≤ nI (ByteArray.mk #[97, 98, 99, 100, 101, 102, 103, 104]).size) then bif decide (1 ≤ nI (Ab (ByteArray.mk #[97, 98, 99, 100, 101, 102, 103, 104]) val.1.1 (nI (ByteArray.mk #[97, 98, 99, 100, 101, 102, 103, 104]).size)).size) then bif decide ((ByteArray.mk #[107]).size + (Ab (Ab (ByteArray.mk #[97, 98, 99, 100, 101, 102, 103, 104]) val.1.1 (nI (ByteArray.mk #[97, 98, 99, 100, 101, 102, 103, 104]).size)) 0 1).size ≤ 9223372036854775807) then ((Ac val.2.1 4).bind fun val => some ((val.1, ()), val.2, ())).bind fun val_1 => bif decide (v4 > 8) then ((Ac val_1.2.1 3).bind fun val => some ((val.1, ()), val.2, ())).bind fun val_2 => bif decide (0 ≤ val_2.1.1) then bif decide (val_2.1.1 ≤ nI (ByteArray.mk #[120, 121, 122]).size) then bif decide (1 ≤ nI (Ab (ByteArray.mk #[120, 121, 122]) val_2.1.1 (nI (ByteArray.mk #[120, 121, 122]).size)).size) then bif decide ((ByteArray.mk #[107] ++ Ab (Ab (ByteArray.mk #[97, 98, 99, 100, 101, 102, 103, 104]) val.1.1 (nI (ByteArray.mk #[97, 98, 99, 100, 101, 102, 103, 104]).size)) 0 1).size + (Ab (Ab (ByteArray.mk #[120, 121, 122]) val_2.1.1 (nI (ByteArray.mk #[120, 121, 122]).size)) 0 1).size ≤ 9223372036854775807) then bif !val_1.1.1 == 0 then (m_spec_l1DrawText val_2.2.1).bind fun val_3 => bif decide (nI (ByteArray.size val_3.1.1) > 100) then bif decide (100 ≤ nI (ByteArray.size val_3.1.1)) then bif decide ((r1.length + [(ByteArray.mk #[107] ++ Ab (Ab (ByteArray.mk #[97, 98, 99, 100, 101, 102, 103, 104]) val.1.1 (nI (ByteArray.mk #[97, 98, 99, 100, 101, 102, 103, 104]).size)) 0 1 ++ Ab (Ab (ByteArray.mk #[120, 121, 122]) val_2.1.1 (nI (ByteArray.mk #[120, 121, 122]).size)) 0 1, Ab val_3.1.1 0 100, val_1.1.1 == 0, ())].length) * 40 ≤ 140737488355328) then NX (v4, IntKind.i64.wrap (v5 + 1), val_3.2.1, r1 ++ [(ByteArray.mk #[107] ++ Ab (Ab (ByteArray.mk #[97, 98, 99, 100, 101, 102, 103, 104]) val.1.1 (nI (ByteArray.mk #[97, 98, 99, 100, 101, 102, 103, 104]).size)) 0 1 ++ Ab (Ab (ByteArray.mk #[120, 121, 122]) val_2.1.1 (nI (ByteArray.mk #[120, 121, 122]).size)) 0 1, Ab val_3.1.1 0 100, val_1.1.1 == 0, ())], ()) else none else none else bif decide ((r1.length + [(ByteArray.mk #[107] ++ Ab (Ab (ByteArray.mk #[97, 98, 99, 100, 101, 102, 103, 104]) val.1.1 (nI (ByteArray.mk #[97, 98, 99, 100, 101, 102, 103, 104]).size)) 0 1 ++ Ab (Ab (ByteArray.mk #[120, 121, 122]) val_2.1.1 (nI (ByteArray.mk #[120, 121, 122]).size)) 0 1, val_3.1.1, val_1.1.1 == 0, ())].length) * 40 ≤ 140737488355328) then NX (v4, IntKind.i64.wrap (v5 + 1), val_3.2.1, r1 ++ [(ByteArray.mk #[107] ++ Ab (Ab (ByteArray.mk #[97, 98, 99, 100, 101, 102, 103, 104]) val.1.1 (nI (ByteArray.mk #[97, 98, 99, 100, 101, 102, 103, 104]).size)) 0 1 ++ Ab (Ab (ByteArray.mk #[120, 121, 122]) val_2.1.1 (nI (ByteArray.mk #[120, 121, 122]).size)) 0 1, val_3.1.1, val_1.1.1 == 0, ())], ()) else none else bif decide ((r1.length + [(ByteArray.mk #[107] ++ Ab (Ab (ByteArray.mk #[97, 98, 99, 100, 101, 102, 103, 104]) val.1.1 (nI (ByteArray.mk #[97, 98, 99, 100, 101, 102, 103, 104]).size)) 0 1 ++ Ab (Ab (ByteArray.mk #[120, 121, 122]) val_2.1.1 (nI (ByteArray.mk #[120, 121, 122]).size)) 0 1, ByteArray.mk #[], val_1.1.1 == 0, ())].length) * 40 ≤ 140737488355328) then NX (v4, IntKind.i64.wrap (v5 + 1), val_2.2.1, r1 ++ [(ByteArray.mk #[107] ++ Ab (Ab (ByteArray.mk #[97, 98, 99, 100, 101, 102, 103, 104]) val.1.1 (nI (ByteArray.mk #[97, 98, 99, 100, 101, 102, 103, 104]).size)) 0 1 ++ Ab (Ab (ByteArray.mk #[120, 121, 122]) val_2.1.1 (nI (ByteArray.mk #[120, 121, 122]).size)) 0 1, ByteArray.mk #[], val_1.1.1 == 0, ())], ()) else none else none else none else none else none else bif !val_1.1.1 == 0 then (m_spec_l1DrawText val_1.2.1).bind fun val_2 => bif decide (nI (ByteArray.size val_2.1.1) > 100) then bif decide (100 ≤ nI (ByteArray.size val_2.1.1)) then bif decide ((r1.length + [(ByteArray.mk #[107] ++ Ab (Ab (ByteArray.mk #[97, 98, 99, 100, 101, 102, 103, 104]) val.1.1 (nI (ByteArray.mk #[97, 98, 99, 100, 101, 102, 103, 104]).size)) 0 1, Ab val_2.1.1 0 100, val_1.1.1 == 0, ())].length) * 40 ≤ 140737488355328) then NX (v4, IntKind.i64.wrap (v5 + 1), val_2.2.1, r1 ++ [(ByteArray.mk #[107] ++ Ab (Ab (ByteArray.mk #[97, 98, 99, 100, 101, 102, 103, 104]) val.1.1 (nI (ByteArray.mk #[97, 98, 99, 100, 101, 102, 103, 104]).size)) 0 1, Ab val_2.1.1 0 100, val_1.1.1 == 0, ())], ()) else none else none else bif decide ((r1.length + [(ByteArray.mk #[107] ++ Ab (Ab (ByteArray.mk #[97, 98, 99, 100, 101, 102, 103, 104]) val.1.1 (nI (ByteArray.mk #[97, 98, 99, 100, 101, 102, 103, 104]).size)) 0 1, val_2.1.1, val_1.1.1 == 0, ())].length) * 40 ≤ 140737488355328) then NX (v4, IntKind.i64.wrap (v5 + 1), val_2.2.1, r1 ++ [(ByteArray.mk #[107] ++ Ab (Ab (ByteArray.mk #[97, 98, 99, 100, 101, 102, 103, 104]) val.1.1 (nI (ByteArray.mk #[97, 98, 99, 100, 101, 102, 103, 104]).size)) 0 1, val_2.1.1, val_1.1.1 == 0, ())], ()) else none else bif decide ((r1.length + [(ByteArray.mk #[107] ++ Ab (Ab (ByteArray.mk #[97, 98, 99, 100, 101, 102, 103, 104]) val.1.1 (nI (ByteArray.mk #[97, 98, 99, 100, 101, 102, 103, 104]).size)) 0 1, ByteArray.mk #[], val_1.1.1 == 0, ())].length) * 40 ≤ 140737488355328) then NX (v4, IntKind.i64.wrap (v5 + 1), val_1.2.1, r1 ++ [(ByteArray.mk #[107] ++ Ab (Ab (ByteArray.mk #[97, 98, 99, 100, 101, 102, 103, 104]) val.1.1 (nI (ByteArray.mk #[97, 98, 99, 100, 101, 102, 103, 104]).size)) 0 1, ByteArray.mk #[], val_1.1.1 == 0, ())], ()) else none else none else none else none else none else X2 (b0, r1, ())
noncomputable def An : Nat → (Int) → (Int) → ((List Int) × Int × Unit) → (List Chg) →  Option (((List Int) × Int × Unit) × (List Chg) × Unit)
 | 0, _, _, _, _ => none
 | m + 1, v4, v5, b0, r1 => Cc  (fun d => An m d.1 d.2.1 d.2.2.1 d.2.2.2.1) (fun d => some (d)) v4 v5 b0 r1
noncomputable def Cp (a0 : (List Int) × Int × Unit) : Option ((((List Chg) × Unit) × (((List Int) × Int × Unit) × Unit))) :=
 ((Ac a0 4).bind fun val => some ((val.1, ()), val.2, ())).bind fun val => ((Ac val.2.1 10).bind fun val => some ((val.1, ()), val.2, ())).bind fun val_1 => bif val_1.1.1 == 0 then ((Ac val_1.2.1 2).bind fun val => some ((val.1, ()), val.2, ())).bind fun val => ((fun d => An (Bd d.1 d.2.1 d.2.2.1 d.2.2.2.1) d.1 d.2.1 d.2.2.1 d.2.2.2.1) (IntKind.i64.wrap (20 - val.1.1), 0, val.2.1, [], ())).bind fun val => some (val.2, val.1, ()) else ((fun d => An (Bd d.1 d.2.1 d.2.2.1 d.2.2.2.1) d.1 d.2.1 d.2.2.1 d.2.2.2.1) (IntKind.i64.wrap (1 + val.1.1), 0, val_1.2.1, [], ())).bind fun val => some (val.2, val.1, ())
theorem Fj : ∃ f, f = @Cp := ⟨_, rfl⟩
noncomputable def m_spec_l4DrawBatch := Classical.choose Fj
theorem Fk : @m_spec_l4DrawBatch = @Cp := Classical.choose_spec Fj
noncomputable def sd_spec_l4DrawBatch : SD := ⟨Kb, fun x => m_spec_l4DrawBatch x.1⟩
theorem Rj (n : Nat) (hn : n ≤ 20) : ∀ (m i k : Nat) (r : Rd) (l : List Chg), n - i < m → i ≤ n → l.length = i → (∀ c ∈ l, Gn c) → Lo k r → k + 15 * (n - i) < 1099511627776 →
  Ar (An m n i r l) fun q => Lo (k + 15 * (n - i)) q.1 ∧ q.2.1.length = n ∧ ∀ c ∈ q.2.1, Gn c
 | 0, i, k, r, l, h, _, _, _, _, _ => by omega
 | m + 1, i, k, r, l, h, hi, hl, hc, hr, hk => by
  simp only [An, Cc]
  refine Ar.cond (fun c => ?_) fun c => ?_
  ·have hi' : i < n := by simpa using c
   have fin : ∀ (c : Chg) (r' : Rd), Gn c → Lo (k + 15) r' → Ar (bif decide ((l.length + [c].length) * 40 ≤ 140737488355328) then An m n (IntKind.i64.wrap ((i : Int) + 1)) r' (l ++ [c]) else none) fun q => Lo (k + 15 * (n - i)) q.1 ∧ q.2.1.length = n ∧ ∀ c ∈ q.2.1, Gn c := fun c r' h1 h2 => by
    refine Ar.go (decide_eq_true (by simp only [List.length_singleton]; omega)) ?_
    rw [wI (by omega)]
    refine (Rj n hn m (i + 1) (k + 15) r' (l ++ [c]) (by omega) (by omega) (by rw [List.length_append, List.length_singleton, hl]) (Wc hc h1) h2 (by omega)).mono fun q hq => ?_
    rw [show k + 15 + 15 * (n - (i + 1)) = k + 15 * (n - i) by omega] at hq
    exact hq
   refine A4 hr (by omega) (by omega) fun v r1 v0 v1 h1 => ?_
   dsimp only
   refine Ar.letter v0 v1 fun s1 => ?_
   generalize Ab (Ab (ByteArray.mk #[97, 98, 99, 100, 101, 102, 103, 104]) v (nI (ByteArray.mk #[97, 98, 99, 100, 101, 102, 103, 104]).size)) 0 1 = c1 at *
   have k1 : (ByteArray.mk #[107] ++ c1).size = 2 := by rw [ByteArray.size_append, s1]; rfl
   refine Ar.go (decide_eq_true (by rw [s1]; decide)) ?_
   refine A4 h1 (by omega) (by omega) fun g r2 g0 g1 h2 => ?_
   dsimp only
   have val : ∀ (key : ByteArray) (r3 : Rd), key.size ≤ 1000 → Lo (k + 3) r3 → Ar (bif !(g == 0) then (m_spec_l1DrawText r3).bind fun val => bif decide (nI (ByteArray.size val.1.1) > 100) then bif decide (100 ≤ nI (ByteArray.size val.1.1)) then bif decide ((l.length + [((key, Ab val.1.1 0 100, g == 0, ()) : Chg)].length) * 40 ≤ 140737488355328) then An m n (IntKind.i64.wrap ((i : Int) + 1)) val.2.1 (l ++ [(key, Ab val.1.1 0 100, g == 0, ())]) else none else none
     else bif decide ((l.length + [((key, val.1.1, g == 0, ()) : Chg)].length) * 40 ≤ 140737488355328) then An m n (IntKind.i64.wrap ((i : Int) + 1)) val.2.1 (l ++ [(key, val.1.1, g == 0, ())]) else none
     else bif decide ((l.length + [((key, ByteArray.mk #[], g == 0, ()) : Chg)].length) * 40 ≤ 140737488355328) then An m n (IntKind.i64.wrap ((i : Int) + 1)) r3 (l ++ [(key, ByteArray.mk #[], g == 0, ())]) else none) fun q => Lo (k + 15 * (n - i)) q.1 ∧ q.2.1.length = n ∧ ∀ c ∈ q.2.1, Gn c := fun key r3 hkey h3 => by
    refine Ar.cond (fun _ => ?_) fun _ => fin _ _ ⟨hkey, Nat.zero_le _⟩ (h3.mono (by omega))
    refine Ar.bind (q9 h3 (by omega)) fun q hq => ?_
    refine Ar.cond (fun c => ?_) fun c => fin _ _ ⟨hkey, by show q.1.1.size ≤ 1000; omega⟩ (hq.2.mono (by omega))
    exfalso
    have c := of_decide_eq_true c
    simp only [nI] at c
    omega
   refine Ar.cond (fun _ => ?_) fun _ => val _ r2 (by rw [k1]; decide) (h2.mono (by omega))
   refine A4 h2 (by omega) (by omega) fun w r3 w0 w1 h3 => ?_
   dsimp only
   refine Ar.letter w0 w1 fun s2 => ?_
   generalize Ab (Ab (ByteArray.mk #[120, 121, 122]) w (nI (ByteArray.mk #[120, 121, 122]).size)) 0 1 = c2 at *
   refine Ar.go (decide_eq_true (by rw [s2, k1]; decide)) ?_
   exact val _ r3 (by rw [ByteArray.size_append, s2, k1]; decide) (h3.mono (by omega))
  ·have : i = n := by have := of_decide_eq_false c; omega
   subst this
   exact Ar.some ⟨hr.mono (by omega), hl, hc⟩
theorem k8 {k : Nat} {r : Rd} (h : Lo k r) (hk : k + 400 < 1099511627776) : Ar (m_spec_l4DrawBatch r) fun q => (1 ≤ q.1.1.length ∧ q.1.1.length ≤ 20 ∧ ∀ c ∈ q.1.1, Gn c) ∧ Lo (k + 400) q.2.1 := by
 rw [Fk]
 unfold Cp
 refine A4 h (by omega) (by omega) fun v r1 v0 v1 h1 => ?_
 dsimp only
 refine A4 h1 (by omega) (by omega) fun w r2 w0 w1 h2 => ?_
 dsimp only
 have fin : ∀ (n : Nat) (x : Int) (r3 : Rd), x = (n : Int) → 1 ≤ n → n ≤ 20 → Lo (k + 3) r3 → Ar ((An (Bd x 0 r3 []) x 0 r3 []).bind fun val => some ((val.2.1, ()), val.1, ())) fun q => (1 ≤ q.1.1.length ∧ q.1.1.length ≤ 20 ∧ ∀ c ∈ q.1.1, Gn c) ∧ Lo (k + 400) q.2.1 := fun n x r3 hx n1 n2 h3 => by
  subst hx
  refine Ar.bind (Rj n n2 _ 0 (k + 3) r3 [] (by simp only [Bd]; omega) (by omega) rfl (fun c hc => by cases hc) h3 (by omega)) fun q hq => Ar.some ⟨⟨by show 1 ≤ q.2.1.length; omega, by show q.2.1.length ≤ 20; omega, hq.2.2⟩, hq.1.mono (by omega)⟩
 refine Ar.cond (fun _ => ?_) fun _ => ?_
 ·refine A4 h2 (by omega) (by omega) fun u r3 u0 u1 h3 => ?_
  dsimp only
  exact fin (20 - u).toNat _ r3 (by rw [At (by omega) (by omega)]; omega) (by omega) (by omega) h3
 ·exact fin (1 + v).toNat _ r2 (by rw [At (by omega) (by omega)]; omega) (by omega) (by omega) (h2.mono (by omega))
noncomputable def Er {R : Type} (k : Kt R) := (V3 (pa_spec_l4DrawBatch 7) (.exit 0) 2 k)
noncomputable def Ge {R : Type} : Lt R pa_spec_l4DrawBatch := (Oq (pat := pa_spec_l4DrawBatch) 7 (fun d k => (An (Bd d.1 d.2.1 d.2.2.1 d.2.2.2.1) d.1 d.2.1 d.2.2.1 d.2.2.2.1).bind (Er k)) Q7)
theorem Fl : A3 Try.prog ta_spec_l4DrawBatch := Dg ⟨Br, Lg, trivial⟩
theorem Iv {R : Type} : Cm Try.prog R 60 1 pa_spec_l4DrawBatch Ge co_spec_l4DrawBatch_7 :=
 Ir (cfg := ⟨ta_spec_l4DrawBatch, 1, 60, pa_spec_l4DrawBatch⟩) 7 [] (fun NX X d => Cc  NX X d.1 d.2.1 d.2.2.1 d.2.2.2.1) (fun m d => An m d.1 d.2.1 d.2.2.1 d.2.2.2.1) (fun d => Bd d.1 d.2.1 d.2.2.1 d.2.2.2.1) Er Fl trivial (fun f NX d => by unfold Cc; simp only [Ch, C1, B1, Option.bind_assoc, Option.bind_none, Option.bind_some]) (fun _ _ _ => by kernel_rfl)
theorem Kc : Ff Try.prog 63 sd_spec_l4DrawBatch :=
 C8 (pat := pa_spec_l4DrawBatch) [co_spec_l4DrawBatch_7] Ge Fl ⟨Iv, trivial⟩ Try.func63 (de := fun x => Cp x.1) (fun x r h => by have q : m_spec_l4DrawBatch x.1 = some r := h; rw [Fk] at q; exact q) fun _ => by kernel_rfl
def By (v7 : Int) (b0 : (List Int) × Int × Unit) (r1 : List Chg) : Nat := (v7 - (r1.length : Int)).toNat + 1
def Js : Sig := ⟨[.bx 154 (.pair (.sl (.int .u8)) (.pair tI .unit)), .rd (.sl Bs)], [none, none], [.own 90 Bs], [none]⟩
noncomputable def ta_spec_l4SpoilBatch : Tb := tb [(64, sd_spec_l1Rd__pick), (73, sd_spec_l1Many)]
def pa_spec_l4SpoilBatch : Nat → Pat × (Nat → Pat) := Ns [(17, ⟨[.row 5 0 90 Bs], [(5, .lf (.row 1)), (7, .lf (.d tI))], [.box 154 [.d (.pair (.sl (.int .u8)) (.pair tI .unit))], .row 90 Bs]⟩, [(3, ⟨[.row 5 0 90 Bs], [(5, .lf (.row 1))], [.box 154 [.d (.pair (.sl (.int .u8)) (.pair tI .unit))], .row 90 Bs]⟩)])]
noncomputable def co_spec_l4SpoilBatch_17 : Code := (Bg (Dh Try.f65)).getD 0 .skip
noncomputable def Bz {R : Type}  (NX : ((Int) × ((List Int) × Int × Unit) × (List Chg) × Unit) → Option R) (X3 : (((List Int) × Int × Unit) × (List Chg) × Unit) → Option R) (v7 : Int) (b0 : (List Int) × Int × Unit) (r1 : List Chg) : Option R :=
 bif decide (nI r1.length < v7) then bif decide (0 < nI r1.length) then bif decide ((r1.length + [r1.getD (Int.toNat 0) (ByteArray.mk #[], ByteArray.mk #[], false, ())].length) * 40 ≤ 140737488355328) then NX (v7, b0, r1 ++ [r1.getD (Int.toNat 0) (ByteArray.mk #[], ByteArray.mk #[], false, ())], ()) else none else none else X3 (b0, r1, ())
noncomputable def A2 : Nat → (Int) → ((List Int) × Int × Unit) → (List Chg) →  Option (((List Int) × Int × Unit) × (List Chg) × Unit)
 | 0, _, _, _ => none
 | m + 1, v7, b0, r1 => Bz  (fun d => A2 m d.1 d.2.1 d.2.2.1) (fun d => some (d)) v7 b0 r1
noncomputable def Cj (a0 : (List Int) × Int × Unit) (a1 : List Chg) : Option ((((List Chg) × Unit) × (((List Int) × Int × Unit) × Unit))) :=
 bif decide ((0 + a1.length) * 40 ≤ 140737488355328) then ((Ac a0 (nI ([] ++ a1).length)).bind fun val => some ((val.1, ()), val.2, ())).bind fun val => bif nI ([] ++ a1).length == 0 then some (([] ++ a1, ()), val.2) else ((Ac val.2.1 6).bind fun val => some ((val.1, ()), val.2, ())).bind fun val_1 => bif val_1.1.1 == 0 then some (([], ()), val_1.2) else bif val_1.1.1 == 1 then ((Ac val_1.2.1 2).bind fun val => some ((val.1, ()), val.2, ())).bind fun val_2 => (m_spec_l1Many (ByteArray.mk #[107]) (IntKind.i64.wrap (20 + val_2.1.1))).bind fun val_3 => ((Ac val_2.2.1 2).bind fun val => some ((val.1, ()), val.2, ())).bind fun val_4 => bif decide (0 ≤ val_4.1.1) then bif decide (val_4.1.1 < nI [ByteArray.mk #[], val_3.1.1].length) then bif decide (0 ≤ val.1.1) then bif decide (val.1.1 < nI ([] ++ a1).length) then bif decide (Int.toNat val.1.1 < ([] ++ a1).length) then some ((([] ++ a1).set (Int.toNat val.1.1) ([ByteArray.mk #[], val_3.1.1].getD (Int.toNat val_4.1.1) (ByteArray.mk #[]), (([] ++ a1).getD (Int.toNat val.1.1) (ByteArray.mk #[], ByteArray.mk #[], false, ())).2), ()), val_4.2) else none else none else none else none else none else bif val_1.1.1 == 2 then ((Ac val_1.2.1 2).bind fun val => some ((val.1, ()), val.2, ())).bind fun val_2 => (m_spec_l1Many (ByteArray.mk #[118]) (IntKind.i64.wrap (100 + val_2.1.1))).bind fun val_3 => bif decide (0 ≤ val.1.1) then bif decide (val.1.1 < nI ([] ++ a1).length) then bif decide (Int.toNat val.1.1 < ([] ++ a1).length) then some ((([] ++ a1).set (Int.toNat val.1.1) ((([] ++ a1).getD (Int.toNat val.1.1) (ByteArray.mk #[], ByteArray.mk #[], false, ())).1, val_3.1.1, (([] ++ a1).getD (Int.toNat val.1.1) (ByteArray.mk #[], ByteArray.mk #[], false, ())).2.2), ()), val_2.2) else none else none else none else bif val_1.1.1 == 3 then bif decide (0 ≤ val.1.1) then bif decide (val.1.1 < nI ([] ++ a1).length) then bif decide (0 ≤ val.1.1) then bif decide (val.1.1 < nI ([] ++ a1).length) then bif decide (Int.toNat val.1.1 < ([] ++ a1).length) then some ((([] ++ a1).set (Int.toNat val.1.1) ((([] ++ a1).getD (Int.toNat val.1.1) (ByteArray.mk #[], ByteArray.mk #[], false, ())).1, (([] ++ a1).getD (Int.toNat val.1.1) (ByteArray.mk #[], ByteArray.mk #[], false, ())).2.1, !(([] ++ a1).getD (Int.toNat val.1.1) (ByteArray.mk #[], ByteArray.mk #[], false, ())).2.2.1, ()), ()), val_1.2) else none else none else none else none else none else bif val_1.1.1 == 4 then ((Ac val_1.2.1 2).bind fun val => some ((val.1, ()), val.2, ())).bind fun val => ((fun d => A2 (By d.1 d.2.1 d.2.2.1) d.1 d.2.1 d.2.2.1) (IntKind.i64.wrap (20 + val.1.1), val.2.1, [] ++ a1, ())).bind fun val => some (val.2, val.1, ()) else some (([] ++ a1, ()), val_1.2) else none
theorem E9 : ∃ f, f = @Cj := ⟨_, rfl⟩
noncomputable def m_spec_l4SpoilBatch := Classical.choose E9
theorem Fa : @m_spec_l4SpoilBatch = @Cj := Classical.choose_spec E9
noncomputable def sd_spec_l4SpoilBatch : SD := ⟨Js, fun x => m_spec_l4SpoilBatch x.1 x.2.1⟩
theorem Rk (n : Nat) (hn : n ≤ 21) (r : Rd) : ∀ (m : Nat) (l : List Chg), n - l.length < m → 0 < l.length → l.length ≤ 21 → (∀ c ∈ l, Gn c) → Ar (A2 m n r l) fun q => q.1 = r ∧ q.2.1.length ≤ 21 ∧ ∀ c ∈ q.2.1, Gn c
 | 0, l, h, _, _, _ => by omega
 | m + 1, l, h, h0, hl, hc => by
  simp only [A2, Bz]
  refine Ar.cond (fun c => ?_) fun c => Ar.some ⟨rfl, hl, hc⟩
  have c : l.length < n := by have := of_decide_eq_true c; simp only [nI] at this; omega
  refine Ar.go (decide_eq_true (by simp only [nI]; omega)) (Ar.go (decide_eq_true (by simp only [List.length_singleton]; omega)) ?_)
  have hx : Gn (l.getD (Int.toNat 0) (ByteArray.mk #[], ByteArray.mk #[], false, ())) := Uu (v := 0) hc (by omega) (by simp only [nI]; omega)
  exact Rk n hn r m _ (by rw [List.length_append, List.length_singleton]; omega) (by rw [List.length_append, List.length_singleton]; omega) (by rw [List.length_append, List.length_singleton]; omega) (Wc hc hx)
theorem s4 {l : List Chg} {c : Chg} (h : ∀ c ∈ l, Gn c) (hc : Gn c) (i : Nat) : ∀ x ∈ l.set i c, Gn x := fun x hx => by
 rcases List.mem_or_eq_of_mem_set hx with q | q
 ·exact h x q
 ·rw [q]; exact hc
theorem k9 {k : Nat} {r : Rd} {l : List Chg} (h : Lo k r) (hk : k + 10 < 1099511627776) (hl : l.length ≤ 20) (hc : ∀ c ∈ l, Gn c) : Ar (m_spec_l4SpoilBatch r l) fun q => (q.1.1.length ≤ 21 ∧ ∀ c ∈ q.1.1, Gn c) ∧ Lo (k + 10) q.2.1 := by
 rw [Fa]
 unfold Cj
 rw [List.nil_append]
 refine Ar.go (decide_eq_true (by omega)) ?_
 refine Zn h (by omega) fun v r1 v0 v1 v2 h1 => ?_
 dsimp only
 refine Ar.cond (fun _ => Ar.some ⟨⟨by show l.length ≤ 21; omega, hc⟩, h1.mono (by omega)⟩) fun hz => ?_
 have hn : 0 < l.length := by
  simp only [nI, beq_eq_false_iff_ne] at hz
  omega
 have v1 := v1 (by simp only [nI]; omega)
 have hx : Gn (l.getD v.toNat (ByteArray.mk #[], ByteArray.mk #[], false, ())) := Uu hc v0 v1
 have so : ∀ c, Gn c → (l.set v.toNat c).length ≤ 21 ∧ ∀ x ∈ l.set v.toNat c, Gn x := fun c h => ⟨by rw [List.length_set]; omega, s4 hc h _⟩
 have c0 : decide (0 ≤ v) = true := decide_eq_true v0
 have c1 : decide (v < nI l.length) = true := decide_eq_true v1
 have c2 : decide (v.toNat < l.length) = true := decide_eq_true (by simp only [nI] at v1; omega)
 refine A4 h1 (by omega) (by omega) fun w r2 w0 w1 h2 => ?_
 dsimp only
 refine Ar.cond (fun _ => Ar.some ⟨⟨Nat.zero_le _, fun c hc => by cases hc⟩, h2.mono (by omega)⟩) fun _ => Ar.cond (fun _ => ?_) fun _ => Ar.cond (fun _ => ?_) fun _ => Ar.cond (fun _ => ?_) fun _ => Ar.cond (fun _ => ?_) fun _ => Ar.some ⟨⟨by show l.length ≤ 21; omega, hc⟩, h2.mono (by omega)⟩
 ·refine A4 h2 (by omega) (by omega) fun u r3 u0 u1 h3 => ?_
  dsimp only
  have ew : IntKind.i64.wrap (20 + u) = 20 + u := At (by omega) (by omega)
  rw [ew]
  refine Ar.bind (Pq (ByteArray.mk #[107]) (20 + u) (by omega) (by omega) (by decide)) fun q hq => ?_
  refine A4 h3 (by omega) (by omega) fun z r4 z0 z1 h4 => ?_
  dsimp only
  refine Ar.go (decide_eq_true z0) (Ar.go (decide_eq_true z1) (Ar.go c0 (Ar.go c1 (Ar.go c2 (Ar.some ⟨so _ ⟨?_, ?_⟩, h4.mono (by omega)⟩)))))
  ·refine Uu (l := [ByteArray.mk #[], q.1.1]) (Q := fun x : ByteArray => x.size ≤ 1000) (fun x hx => ?_) z0 z1
   simp only [List.mem_cons, List.not_mem_nil, or_false] at hx
   rcases hx with rfl | rfl
   ·exact Nat.zero_le _
   ·rw [hq]
    show 1 * _ ≤ 1000
    omega
  ·exact hx.2
 ·refine A4 h2 (by omega) (by omega) fun u r3 u0 u1 h3 => ?_
  dsimp only
  have ew : IntKind.i64.wrap (100 + u) = 100 + u := At (by omega) (by omega)
  rw [ew]
  refine Ar.bind (Pq (ByteArray.mk #[118]) (100 + u) (by omega) (by omega) (by decide)) fun q hq => ?_
  refine Ar.go c0 (Ar.go c1 (Ar.go c2 (Ar.some ⟨so _ ⟨?_, ?_⟩, h3.mono (by omega)⟩)))
  ·exact hx.1
  ·show q.1.1.size ≤ 1000
   rw [hq]
   show 1 * _ ≤ 1000
   omega
 ·exact Ar.go c0 (Ar.go c1 (Ar.go c0 (Ar.go c1 (Ar.go c2 (Ar.some ⟨so _ (by exact ⟨hx.1, hx.2⟩), h2.mono (by omega)⟩)))))
 ·refine A4 h2 (by omega) (by omega) fun u r3 u0 u1 h3 => ?_
  dsimp only
  have ew : IntKind.i64.wrap (20 + u) = ((20 + u).toNat : Int) := by rw [At (by omega) (by omega)]; omega
  rw [ew]
  refine Ar.bind (Rk (20 + u).toNat (by omega) r3 _ l (by simp only [By]; omega) hn (by omega) hc) fun q hq => Ar.some ⟨hq.2, ?_⟩
  show Lo (k + 10) q.1
  rw [hq.1]
  exact h3.mono (by omega)
noncomputable def Dx {R : Type} (k : Kt R) := (V3 (pa_spec_l4SpoilBatch 17) (.exit 1) 3 k)
noncomputable def Fm {R : Type} : Lt R pa_spec_l4SpoilBatch := (Oq (pat := pa_spec_l4SpoilBatch) 17 (fun d k => (A2 (By d.1 d.2.1 d.2.2.1) d.1 d.2.1 d.2.2.1).bind (Dx k)) Q7)
theorem Fb : A3 Try.prog ta_spec_l4SpoilBatch := Dg ⟨Br, Ga, trivial⟩
theorem Ht {R : Type} : Cm Try.prog R 77 1 pa_spec_l4SpoilBatch Fm co_spec_l4SpoilBatch_17 :=
 Ir (cfg := ⟨ta_spec_l4SpoilBatch, 1, 77, pa_spec_l4SpoilBatch⟩) 17 [] (fun NX X d => Bz  NX X d.1 d.2.1 d.2.2.1) (fun m d => A2 m d.1 d.2.1 d.2.2.1) (fun d => By d.1 d.2.1 d.2.2.1) Dx Fb trivial (fun f NX d => by unfold Bz; simp only [Ch, C1, B1, Option.bind_assoc, Option.bind_none, Option.bind_some]) (fun _ _ _ => by kernel_rfl)
theorem Jt : Ff Try.prog 65 sd_spec_l4SpoilBatch :=
 C8 (pat := pa_spec_l4SpoilBatch) [co_spec_l4SpoilBatch_17] Fm Fb ⟨Ht, trivial⟩ Try.func65 (de := fun x => Cj x.1 x.2.1) (fun x r h => by have q : m_spec_l4SpoilBatch x.1 x.2.1 = some r := h; rw [Fa] at q; exact q) fun _ => by kernel_rfl
def Iw : Sig := ⟨[.rd (.sl (.int .u8))], [none], [.own 90 Bs], [none]⟩
noncomputable def Ce (a0 : List Int) : Option ((((List Chg) × Unit) × (Unit))) :=
 (m_spec_l1Open a0).bind fun val => (m_spec_l4DrawBatch val.1.1).bind fun val => ((Ac val.2.1 4).bind fun val => some ((val.1, ()), val.2, ())).bind fun val_1 => bif val_1.1.1 == 0 then (m_spec_l4SpoilBatch val_1.2.1 val.1.1).bind fun val => some (val.1, ()) else some (val.1, ())
theorem Es : ∃ f, f = @Ce := ⟨_, rfl⟩
noncomputable def m_spec_DrawFormBatch := Classical.choose Es
theorem Et : @m_spec_DrawFormBatch = @Ce := Classical.choose_spec Es
noncomputable def sd_spec_DrawFormBatch : SD := ⟨Iw, fun x => m_spec_DrawFormBatch x.1⟩
theorem Mo (b : List Int) (h : Ji (.sl (.int .u8)) b) : Ar (m_spec_DrawFormBatch b) fun q => q.1.1.length ≤ 21 ∧ ∀ c ∈ q.1.1, Gn c := by
 rw [Et]
 unfold Ce
 refine Ar.bind (Ym b h) fun q hq => ?_
 refine Ar.bind (k8 hq (by omega)) fun q2 hq2 => ?_
 refine A4 hq2.2 (by omega) (by omega) fun v r1 v0 v1 h1 => ?_
 dsimp only
 refine Ar.cond (fun _ => ?_) fun _ => Ar.some ⟨Nat.le_trans hq2.1.2.1 (by decide), hq2.1.2.2⟩
 exact Ar.bind (k9 h1 (by omega) hq2.1.2.1 hq2.1.2.2) fun q3 hq3 => Ar.some hq3.1
theorem Eu : Ff Try.prog 18 sd_spec_DrawFormBatch :=
 C8 (pat := Jh) [] Q7 (Dg (l := [(62, sd_spec_l1Open), (63, sd_spec_l4DrawBatch), (64, sd_spec_l1Rd__pick), (65, sd_spec_l4SpoilBatch)]) ⟨Jo, Kc, Br, Jt, trivial⟩) trivial Try.func18 (de := fun x => Ce x.1) (fun x r h => by have q : m_spec_DrawFormBatch x.1 = some r := h; rw [Et] at q; exact q) fun _ => by kernel_rfl
def Hu (v lo hi : Int) : Bool := Of v lo hi
def Xh : Sig := ⟨[.rd tI, .rd tI, .rd tI], [none, none, none], [.rd .bool], [none]⟩
noncomputable def sd_impl_in : SD := ⟨Xh, fun x => some (((Hu x.1 x.2.1 x.2.2.1), ()), (()))⟩
noncomputable def Lh (a0 : Int) (a1 : Int) (a2 : Int) : Option ((((Bool) × Unit) × (Unit))) :=
 bif decide (a0 ≥ a1) then some ((decide (a0 ≤ a2), ()), ()) else some ((false, ()), ())
theorem Xi (a0 a1 a2 : Int) : Lh a0 a1 a2 = some ((Hu a0 a1 a2, ()), ()) := by
 unfold Lh Hu Of
 by_cases h : a0 ≥ a1
 ·have : decide (a1 ≤ a0) = true := by simpa using h
  simp [h, this]
 ·have : decide (a1 ≤ a0) = false := by simpa using h
  simp [h, this]
theorem Rl : Ff Try.prog 83 sd_impl_in :=
 C8 (pat := Jh) [] Q7 (Dg (l := []) trivial) trivial Try.func83 (de := fun x => Lh x.1 x.2.1 x.2.2.1) (fun x r h => (Xi x.1 x.2.1 x.2.2.1).trans h) fun _ => by kernel_rfl
def Gf (k : ByteArray) : Bool := Og k
def Ot : Sig := ⟨[.rd .str], [none], [.rd .bool], [none]⟩
noncomputable def sd_impl_goodKey : SD := ⟨Ot, fun x => some (((Gf x.1), ()), (()))⟩
noncomputable def Is (a0 : ByteArray) : Option ((((Bool) × Unit) × (Unit))) :=
 some ((Hu (nI a0.size) 1 20, ()), ())
theorem Ou (a0 : ByteArray) : Is a0 = some ((Gf a0, ()), ()) := rfl
theorem Ov : Ff Try.prog 111 sd_impl_goodKey :=
 C8 (pat := Jh) [] Q7 (Dg (l := [(83, sd_impl_in)]) ⟨Rl, trivial⟩) trivial Try.func111 (de := fun x => Is x.1) (fun x r h => (Ou x.1).trans h) fun _ => by kernel_rfl
def Ck (b : List Chg) : Bool := Am b
def Li : Sig := ⟨[.rd (.sl Bs)], [none], [.rd .bool], [none]⟩
noncomputable def sd_impl_ValidBatch : SD := ⟨Li, fun x => some (((Ck x.1), ()), (()))⟩
noncomputable def ta_impl_ValidBatch : Tb := tb [(83, sd_impl_in), (111, sd_impl_goodKey)]
def pa_impl_ValidBatch : Nat → Pat × (Nat → Pat) := Ns [(5, ⟨[.sl 9 0 Bs], [(9, .lf (.d (.sl Bs))), (10, .lf (.d tI)), (11, .lf (.d tI))], []⟩, [(2, p0), (1, ⟨[], [(2, .lf (.d .bool))], []⟩)])]
noncomputable def co_impl_ValidBatch_5 : Code := (Bg (Dh Try.f66)).getD 0 .skip
def Bu (v9 : List Chg) (v10 : Int) (v11 : Int) : Nat := (v10 - v11).toNat + 1
noncomputable def Bv {R : Type}  (NX : ((List Chg) × (Int) × (Int) × Unit) → Option R) (X2 : (Unit) → Option R) (X1 : ((Bool) × Unit) → Option R) (v9 : List Chg) (v10 : Int) (v11 : Int) : Option R :=
 bif decide (v11 < v10) then bif decide (0 ≤ v11) then bif decide (v11 < nI v9.length) then bif !Gf (v9.getD v11.toNat (ByteArray.mk #[], ByteArray.mk #[], false, ())).1 then X1 (false, ()) else bif decide (nI (ByteArray.size (v9.getD v11.toNat (ByteArray.mk #[], ByteArray.mk #[], false, ())).2.1) > 100) then X1 (false, ()) else bif (v9.getD v11.toNat (ByteArray.mk #[], ByteArray.mk #[], false, ())).2.2.1 then bif !ByteArray.toList (v9.getD v11.toNat (ByteArray.mk #[], ByteArray.mk #[], false, ())).2.1 == (ByteArray.mk #[]).toList then X1 (false, ()) else NX (v9, v10, IntKind.i64.wrap (v11 + 1), ()) else NX (v9, v10, IntKind.i64.wrap (v11 + 1), ()) else none else none else X2 PUnit.unit
noncomputable def Aw : Nat → (List Chg) → (Int) → (Int) →  Option ((Unit) ⊕ ((Bool) × Unit))
 | 0, _, _, _ => none
 | m + 1, v9, v10, v11 => Bv  (fun d => Aw m d.1 d.2.1 d.2.2.1) (fun d => some (.inl (d))) (fun d => some (.inr (d))) v9 v10 v11
noncomputable def Dt (a0 : List Chg) : Option ((((Bool) × Unit) × (Unit))) :=
 bif !Hu (nI a0.length) 1 20 then some ((false, ()), ()) else ((fun d => Aw (Bu d.1 d.2.1 d.2.2.1) d.1 d.2.1 d.2.2.1) (a0, nI a0.length, 0, ())).bind fun val => Ip (fun d => some ((true, ()), ())) (fun d => some (d, ())) val
theorem Lj (a0 : List Chg) : Dt a0 = some (((Ck a0), ()), (())) := by
 unfold Dt Ck Am
 have tl : ByteArray.toList (ByteArray.mk #[]) = [] := by decide +kernel
 show (bif !Of (a0.length : Int) 1 20 then _ else _) = _
 cases hin : Of (a0.length : Int) 1 20 with
 | false => rfl
 | true =>
  have hlen : a0.length ≤ 20 := by have := (Rb hin).2; omega
  have hL := Q9 (n := a0.length) (fun i => Eo (a0.getD i zC)) (g := fun m i => Aw m a0 (nI a0.length) i) (ok := .inl ()) (bad := .inr (false, ())) (fun m i hi => by
   show Aw (m + 1) a0 (nI a0.length) i = _
   simp only [Aw, Bv]
   rw [tl, cLt hi, i5, wI (show i < 4611686018427387904 by omega), Int.toNat_natCast]
   have g1 : decide (nI (ByteArray.size (List.getD a0 i (ByteArray.mk #[], ByteArray.mk #[], false, ())).2.1) > 100) = !decide ((a0.getD i zC).2.1.size ≤ 100) := x8 _ 100
   rw [g1]
   show (bif !Og (a0.getD i zC).1 then _ else (bif _ then _ else (bif (a0.getD i zC).2.2.1 then (bif !((a0.getD i zC).2.1.toList == []) then _ else _) else _))) = _
   unfold Eo
   cases Og (a0.getD i zC).1 <;> cases decide ((a0.getD i zC).2.1.size ≤ 100) <;> cases (a0.getD i zC).2.2.1 <;> cases ((a0.getD i zC).2.1.toList == []) <;> rfl) (fun m => by
   show Aw (m + 1) a0 (nI a0.length) (a0.length : Int) = _
   simp only [Aw, Bv]
   rw [i4]
   rfl) (Bu a0 (nI a0.length) 0) 0 (by omega) (by simp [Bu, nI])
  refine bi_ hL ?_
  rw [Nat.sub_zero]
  cases (List.range' 0 a0.length).all (fun i => Eo (a0.getD i zC)) <;> rfl
noncomputable def Fc {R : Type} (k : Kt R) := (Ip (V3 (pa_impl_ValidBatch 5) (.exit 0) 2 k) (V3 (pa_impl_ValidBatch 5) .ret 1 k))
noncomputable def G2 {R : Type} : Lt R pa_impl_ValidBatch := (Oq (pat := pa_impl_ValidBatch) 5 (fun d k => (Aw (Bu d.1 d.2.1 d.2.2.1) d.1 d.2.1 d.2.2.1).bind (Fc k)) Q7)
theorem Gg : A3 Try.prog ta_impl_ValidBatch := Dg ⟨Rl, Ov, trivial⟩
theorem Ju {R : Type} : Cm Try.prog R 35 0 pa_impl_ValidBatch G2 co_impl_ValidBatch_5 :=
 Ir (cfg := ⟨ta_impl_ValidBatch, 0, 35, pa_impl_ValidBatch⟩) 5 [] (fun NX X d => Bv  NX (fun e => X (.inl (e))) (fun e => X (.inr (e))) d.1 d.2.1 d.2.2.1) (fun m d => Aw m d.1 d.2.1 d.2.2.1) (fun d => Bu d.1 d.2.1 d.2.2.1) Fc Gg trivial (fun f NX d => by unfold Bv; simp only [Ch, C1, B1, Option.bind_assoc, Option.bind_none, Option.bind_some]) (fun _ _ _ => by kernel_rfl)
theorem Gi : Ff Try.prog 66 sd_impl_ValidBatch :=
 C8 (pat := pa_impl_ValidBatch) [co_impl_ValidBatch_5] G2 Gg ⟨Ju, trivial⟩ Try.func66 (de := fun x => Dt x.1) (fun x r h => (Lj x.1).trans h) fun _ => by kernel_rfl
def Ny (v n : Int) : Option ByteArray := if 0 ≤ n ∧ n ≤ 1000 then some (Jk v n.toNat) else none
def D9 (v0 v6 : Int) (r0 : List Int) : Nat := v6.toNat + 2
def Xj : Sig := ⟨[.rd tI, .rd tI], [none, none], [.rd .str], [none]⟩
noncomputable def sd_impl_be : SD := ⟨Xj, fun x => (Ny x.1 x.2.1).bind fun r => some ((r, ()), (()))⟩
noncomputable def ta_impl_be : Tb := tb []
def pa_impl_be : Nat → Pat × (Nat → Pat) := Ns [(4, ⟨[.row 5 0 5 (.int .u8)], [(0, .lf (.d tI)), (5, .lf (.row 0)), (6, .lf (.d tI))], [.row 5 (.int .u8)]⟩, [(2, ⟨[.row 5 0 5 (.int .u8)], [(5, .lf (.row 0))], [.row 5 (.int .u8)]⟩)])]
noncomputable def co_impl_be_4 : Code := (Bg (Dh Try.f68)).getD 0 .skip
noncomputable def Ea {R : Type}  (NX : ((Int) × (Int) × (List Int) × Unit) → Option R) (X2 : ((List Int) × Unit) → Option R) (v0 : Int) (v6 : Int) (r0 : List Int) : Option R :=
 bif decide (v6 ≥ 0) then bif decide (0 ≤ v6) then bif decide (v6 < nI r0.length) then bif decide (v6.toNat < r0.length) then NX (v0.fdiv (2 ^ min (Int.toNat 8) 64), IntKind.i64.wrap (v6 - 1), r0.set v6.toNat (IntKind.u8.wrap v0), ()) else none else none else none else X2 (r0, ())
noncomputable def Cz : Nat → (Int) → (Int) → (List Int) →  Option ((List Int) × Unit)
 | 0, _, _, _ => none
 | m + 1, v0, v6, r0 => Ea  (fun d => Cz m d.1 d.2.1 d.2.2.1) (fun d => some (d)) v0 v6 r0
noncomputable def Lk (a0 : Int) (a1 : Int) : Option ((((ByteArray) × Unit) × (Unit))) :=
 bif decide (a1 = a1) then bif decide (0 ≤ a1) then bif decide (a1.toNat * 1 ≤ 140737488355328) then ((fun d => Cz (D9 d.1 d.2.1 d.2.2.1) d.1 d.2.1 d.2.2.1) (a0, IntKind.i64.wrap (a1 - 1), List.replicate a1.toNat 0, ())).bind fun val => some ((strOfNums val.1, ()), ()) else none else none else none
theorem Yq : ∀ (k m : Nat) (v : Int) (l t : List Int), l.length = k → k ≤ 1000 → k < m → Cz m v ((k : Int) - 1) (l ++ t) = some (Xc v k ++ t, ())
 | 0, m + 1, v, l, t, hl, hk, hm => by
  obtain rfl : l = [] := List.length_eq_zero_iff.1 hl
  simp only [Cz, Ea]
  rw [decide_eq_false (by omega)]
  rfl
 | k + 1, m + 1, v, l, t, hl, hk, hm => by
  have e : (((k + 1 : Nat) : Int) - 1) = (k : Int) := by omega
  rw [e]
  simp only [Cz, Ea]
  have hlen : (l ++ t).length = k + 1 + t.length := by rw [List.length_append, hl]
  rw [decide_eq_true (show (k : Int) ≥ 0 by omega), decide_eq_true (show (k : Int) < nI (l ++ t).length by simp only [nI, hlen]; omega), decide_eq_true (show Int.toNat (k : Int) < (l ++ t).length by rw [hlen]; omega), At (by omega) (by omega)]
  simp only [cond_true, Int.toNat_natCast]
  obtain ⟨l', x, rfl⟩ : ∃ l' x, l = l' ++ [x] := ⟨l.dropLast, l.getLast (by intro h; subst h; simp at hl), (List.dropLast_concat_getLast _).symm⟩
  have hl' : l'.length = k := by simpa using hl
  have hs : ((l' ++ [x]) ++ t).set k (IntKind.wrap IntKind.u8 v) = l' ++ (v % 256 :: t) := by
   rw [List.append_assoc, List.set_append_right _ _ (by omega), hl']
   simp only [Nat.sub_self, List.singleton_append, List.set_cons_zero]
   rfl
  rw [hs]
  have := Yq k m (v / 256) l' (v % 256 :: t) hl' (by omega) (by omega)
  have e2 : Int.fdiv v (2 ^ min (Int.toNat 8) 64) = v / 256 := by
   show Int.fdiv v 256 = v / 256
   exact Int.fdiv_eq_ediv_of_nonneg _ (by omega)
  rw [e2, this]
  simp only [Xc, List.append_assoc, List.singleton_append]
theorem Xk (a0 : Int) (a1 : Int) r (h : Ny a0 a1 = some r) : Lk a0 a1 = some ((r, ()), (())) := by
 unfold Ny at h
 split at h
 ·rename_i hc
  cases h
  obtain ⟨n, rfl⟩ : ∃ n : Nat, a1 = (n : Int) := ⟨a1.toNat, by omega⟩
  unfold Lk
  rw [decide_eq_true rfl, decide_eq_true hc.1, decide_eq_true (show Int.toNat (n : Int) * 1 ≤ 140737488355328 by omega), At (by omega) (by omega)]
  have hL := Yq n (D9 a0 ((n : Int) - 1) (List.replicate n 0)) a0 (List.replicate n 0) [] (by simp) (by omega) (by simp only [D9]; omega)
  rw [List.append_nil, List.append_nil] at hL
  exact bi_ hL rfl
 ·cases h
noncomputable def Mp {R : Type} (k : Kt R) := (V3 (pa_impl_be 4) (.exit 0) 2 k)
noncomputable def Tf {R : Type} : Lt R pa_impl_be := (Oq (pat := pa_impl_be) 4 (fun d k => (Cz (D9 d.1 d.2.1 d.2.2.1) d.1 d.2.1 d.2.2.1).bind (Mp k)) Q7)
theorem Rm : A3 Try.prog ta_impl_be := Dg trivial
theorem Uv {R : Type} : Cm Try.prog R 24 0 pa_impl_be Tf co_impl_be_4 :=
 Ir (cfg := ⟨ta_impl_be, 0, 24, pa_impl_be⟩) 4 [] (fun NX X d => Ea  NX X d.1 d.2.1 d.2.2.1) (fun m d => Cz m d.1 d.2.1 d.2.2.1) (fun d => D9 d.1 d.2.1 d.2.2.1) Mp Rm trivial (fun f NX d => by unfold Ea; simp only [Ch, C1, B1, Option.bind_assoc, Option.bind_none, Option.bind_some]) (fun _ _ _ => by kernel_rfl)
theorem Xl : Ff Try.prog 68 sd_impl_be :=
 C8 (pat := pa_impl_be) [co_impl_be_4] Tf Rm ⟨Uv, trivial⟩ Try.func68 (de := fun x => Lk x.1 x.2.1) (fun x r h => Uo (Xk x.1 x.2.1) h) fun _ => by kernel_rfl
def As (b : List Chg) : ByteArray := Bi b
def Mq : Sig := ⟨[.rd (.sl Bs)], [none], [.rd .str], [none]⟩
noncomputable def sd_impl_FormBatch : SD := ⟨Mq, fun x => some (((As x.1), ()), (()))⟩
noncomputable def Eb : Tb := ⟨tbF [(66, sd_impl_ValidBatch), (68, sd_impl_be)], fun f => if f = 67 then some Try.f67 else none, some (118, 108), some (69, 108, 5), none⟩
def pa_impl_FormBatch : Nat → Pat × (Nat → Pat) := Ns [(6, ⟨[.sl 9 0 Bs, .self 3 0, .boxRow 3 1 5 (.int .u8)], [(3, .lf (.ptr 0 0)), (9, .lf (.d (.sl Bs))), (10, .lf (.d tI)), (11, .lf (.d tI))], [.box 108 [.sp 0, .row 1], .row 5 (.int .u8)]⟩, [(2, ⟨[.self 3 0, .boxRow 3 1 5 (.int .u8)], [(3, .lf (.ptr 0 0))], [.box 108 [.sp 0, .row 1], .row 5 (.int .u8)]⟩)])]
noncomputable def co_impl_FormBatch_6 : Code := (Bg (Dh Try.f19)).getD 0 .skip
def B2 (v9 : List Chg) (v10 : Int) (v11 : Int) (r1 : List Int) : Nat := (v10 - v11).toNat + 1
noncomputable def B3 {R : Type}  (NX : ((List Chg) × (Int) × (Int) × (List Int) × Unit) → Option R) (X2 : ((List Int) × Unit) → Option R) (v9 : List Chg) (v10 : Int) (v11 : Int) (r1 : List Int) : Option R :=
 bif decide (v11 < v10) then bif decide (0 ≤ v11) then bif decide (v11 < nI v9.length) then bif (v9.getD v11.toNat (ByteArray.mk #[], ByteArray.mk #[], false, ())).2.2.1 then bif decide ((ByteArray.mk #[1] ++ Jk (nI (ByteArray.size (v9.getD v11.toNat (ByteArray.mk #[], ByteArray.mk #[], false, ())).1)) (Int.toNat 1)).size + ByteArray.size (v9.getD v11.toNat (ByteArray.mk #[], ByteArray.mk #[], false, ())).1 ≤ 9223372036854775807) then bif decide (r1.length + (ByteArray.mk #[1] ++ Jk (nI (ByteArray.size (v9.getD v11.toNat (ByteArray.mk #[], ByteArray.mk #[], false, ())).1)) (Int.toNat 1) ++ (v9.getD v11.toNat (ByteArray.mk #[], ByteArray.mk #[], false, ())).1).size ≤ 140737488355328) then NX (v9, v10, IntKind.i64.wrap (v11 + 1), r1 ++ Aa (ByteArray.mk #[1] ++ Jk (nI (ByteArray.size (v9.getD v11.toNat (ByteArray.mk #[], ByteArray.mk #[], false, ())).1)) (Int.toNat 1) ++ (v9.getD v11.toNat (ByteArray.mk #[], ByteArray.mk #[], false, ())).1), ()) else none else none else bif decide ((ByteArray.mk #[0] ++ Jk (nI (ByteArray.size (v9.getD v11.toNat (ByteArray.mk #[], ByteArray.mk #[], false, ())).1)) (Int.toNat 1)).size + ByteArray.size (v9.getD v11.toNat (ByteArray.mk #[], ByteArray.mk #[], false, ())).1 ≤ 9223372036854775807) then bif decide ((ByteArray.mk #[0] ++ Jk (nI (ByteArray.size (v9.getD v11.toNat (ByteArray.mk #[], ByteArray.mk #[], false, ())).1)) (Int.toNat 1) ++ (v9.getD v11.toNat (ByteArray.mk #[], ByteArray.mk #[], false, ())).1).size + (Jk (nI (ByteArray.size (v9.getD v11.toNat (ByteArray.mk #[], ByteArray.mk #[], false, ())).2.1)) (Int.toNat 1)).size ≤ 9223372036854775807) then bif decide ((ByteArray.mk #[0] ++ Jk (nI (ByteArray.size (v9.getD v11.toNat (ByteArray.mk #[], ByteArray.mk #[], false, ())).1)) (Int.toNat 1) ++ (v9.getD v11.toNat (ByteArray.mk #[], ByteArray.mk #[], false, ())).1 ++ Jk (nI (ByteArray.size (v9.getD v11.toNat (ByteArray.mk #[], ByteArray.mk #[], false, ())).2.1)) (Int.toNat 1)).size + ByteArray.size (v9.getD v11.toNat (ByteArray.mk #[], ByteArray.mk #[], false, ())).2.1 ≤ 9223372036854775807) then bif decide (r1.length + (ByteArray.mk #[0] ++ Jk (nI (ByteArray.size (v9.getD v11.toNat (ByteArray.mk #[], ByteArray.mk #[], false, ())).1)) (Int.toNat 1) ++ (v9.getD v11.toNat (ByteArray.mk #[], ByteArray.mk #[], false, ())).1 ++ Jk (nI (ByteArray.size (v9.getD v11.toNat (ByteArray.mk #[], ByteArray.mk #[], false, ())).2.1)) (Int.toNat 1) ++ (v9.getD v11.toNat (ByteArray.mk #[], ByteArray.mk #[], false, ())).2.1).size ≤ 140737488355328) then NX (v9, v10, IntKind.i64.wrap (v11 + 1), r1 ++ Aa (ByteArray.mk #[0] ++ Jk (nI (ByteArray.size (v9.getD v11.toNat (ByteArray.mk #[], ByteArray.mk #[], false, ())).1)) (Int.toNat 1) ++ (v9.getD v11.toNat (ByteArray.mk #[], ByteArray.mk #[], false, ())).1 ++ Jk (nI (ByteArray.size (v9.getD v11.toNat (ByteArray.mk #[], ByteArray.mk #[], false, ())).2.1)) (Int.toNat 1) ++ (v9.getD v11.toNat (ByteArray.mk #[], ByteArray.mk #[], false, ())).2.1), ()) else none else none else none else none else none else none else X2 (r1, ())
noncomputable def Ap : Nat → (List Chg) → (Int) → (Int) → (List Int) →  Option ((List Int) × Unit)
 | 0, _, _, _, _ => none
 | m + 1, v9, v10, v11, r1 => B3  (fun d => Ap m d.1 d.2.1 d.2.2.1 d.2.2.2.1) (fun d => some (d)) v9 v10 v11 r1
noncomputable def Ec (a0 : List Chg) : Option ((((ByteArray) × Unit) × (Unit))) :=
 bif !Ck a0 then some ((ByteArray.mk #[], ()), ()) else ((fun d => Ap (B2 d.1 d.2.1 d.2.2.1 d.2.2.2.1) d.1 d.2.1 d.2.2.1 d.2.2.2.1) (a0, nI a0.length, 0, [], ())).bind fun val => bif Bt val.1 then some ((strOfNums val.1, ()), ()) else none
theorem Mr (a0 : List Chg) : Ec a0 = some ((As a0, ()), (())) := by
 unfold Ec As Bi
 show (bif !Am a0 then _ else _) = _
 cases hv : Am a0 with
 | false => rfl
 | true =>
  obtain ⟨hlen, hok⟩ := Hd hv
  have hL := Ur a0.length Re (fun i r => r ++ Fg (a0.getD i zC)) (g := fun m i r => Ap m a0 (nI a0.length) i r) (ok := fun r => (r, ())) (fun m i r hi hr => by
   show Ap (m + 1) a0 (nI a0.length) i r = _
   simp only [Ap, B3]
   have hc := hok i hi
   obtain ⟨k1, k2, k3⟩ := Ka hc
   rw [cLt hi, i5, wI (show i < 4611686018427387904 by omega), Int.toNat_natCast]
   show (bif (a0.getD i zC).2.2.1 then (bif decide (ByteArray.size (ByteArray.mk #[1] ++ Jk (nI (ByteArray.size (a0.getD i zC).1)) 1) + ByteArray.size (a0.getD i zC).1 ≤ 9223372036854775807) then (bif decide (List.length r + ByteArray.size (ByteArray.mk #[1] ++ Jk (nI (ByteArray.size (a0.getD i zC).1)) 1 ++ (a0.getD i zC).1) ≤ 140737488355328) then Ap m a0 (nI a0.length) ((i + 1 : Nat) : Int) (r ++ Aa (ByteArray.mk #[1] ++ Jk (nI (ByteArray.size (a0.getD i zC).1)) 1 ++ (a0.getD i zC).1)) else none) else none) else (bif decide (ByteArray.size (ByteArray.mk #[0] ++ Jk (nI (ByteArray.size (a0.getD i zC).1)) 1) + ByteArray.size (a0.getD i zC).1 ≤ 9223372036854775807) then (bif decide (ByteArray.size (ByteArray.mk #[0] ++ Jk (nI (ByteArray.size (a0.getD i zC).1)) 1 ++ (a0.getD i zC).1) + ByteArray.size (Jk (nI (ByteArray.size (a0.getD i zC).2.1)) 1) ≤ 9223372036854775807) then (bif decide (ByteArray.size (ByteArray.mk #[0] ++ Jk (nI (ByteArray.size (a0.getD i zC).1)) 1 ++ (a0.getD i zC).1 ++ Jk (nI (ByteArray.size (a0.getD i zC).2.1)) 1) + ByteArray.size (a0.getD i zC).2.1 ≤ 9223372036854775807) then (bif decide (List.length r + ByteArray.size (ByteArray.mk #[0] ++ Jk (nI (ByteArray.size (a0.getD i zC).1)) 1 ++ (a0.getD i zC).1 ++ Jk (nI (ByteArray.size (a0.getD i zC).2.1)) 1 ++ (a0.getD i zC).2.1) ≤ 140737488355328) then Ap m a0 (nI a0.length) ((i + 1 : Nat) : Int) (r ++ Aa (ByteArray.mk #[0] ++ Jk (nI (ByteArray.size (a0.getD i zC).1)) 1 ++ (a0.getD i zC).1 ++ Jk (nI (ByteArray.size (a0.getD i zC).2.1)) 1 ++ (a0.getD i zC).2.1)) else none) else none) else none) else none)) = Ap m a0 (nI a0.length) ((i + 1 : Nat) : Int) (r ++ Fg (a0.getD i zC))
   have hr1 := hr.1
   generalize a0.getD i zC = c at *
   have o1 : Aa (ByteArray.mk #[1]) = [1] := rfl
   have o0 : Aa (ByteArray.mk #[0]) = [0] := rfl
   have s1 : ByteArray.size (ByteArray.mk #[1]) = 1 := rfl
   have s0 : ByteArray.size (ByteArray.mk #[0]) = 1 := rfl
   simp only [Zg, V9 _ (show c.1.size < 256 by omega), V9 _ (show c.2.1.size < 256 by omega), o1, o0, ByteArray.size_append, i9, s1, s0]
   rw [decide_eq_true (show 1 + 1 + c.1.size ≤ 9223372036854775807 by omega), decide_eq_true (show r.length + (1 + 1 + c.1.size) ≤ 140737488355328 by omega), decide_eq_true (show 1 + 1 + c.1.size + 1 ≤ 9223372036854775807 by omega), decide_eq_true (show 1 + 1 + c.1.size + 1 + c.2.1.size ≤ 9223372036854775807 by omega), decide_eq_true (show r.length + (1 + 1 + c.1.size + 1 + c.2.1.size) ≤ 140737488355328 by omega)]
   unfold Fg
   cases c.2.2.1 <;> rfl) (fun m r _ => by
   show Ap (m + 1) a0 (nI a0.length) (a0.length : Int) r = _
   simp only [Ap, B3]
   rw [i4]
   rfl) (fun i r hi hr => hr.step (hok i hi)) a0.length (B2 a0 (nI a0.length) 0 []) 0 [] (by omega) (by simp [B2, nI]) ⟨by simp, rfl⟩
  have hB := Wa hok a0.length 0 [] (by omega) ⟨by simp, rfl⟩
  rw [Rc Fg zC a0 a0.length 0 [] (by omega), List.nil_append, List.drop_zero] at hL hB
  refine bi_ hL ?_
  show (bif Bt (Bo a0) then some ((strOfNums (Bo a0), ()), ()) else none) = _
  have : Bt (Bo a0) = true := hB.2
  rw [this]
  rfl
noncomputable def Fo {R : Type} (k : Kt R) := (V3 (pa_impl_FormBatch 6) (.exit 0) 2 k)
noncomputable def Hv {R : Type} : Lt R pa_impl_FormBatch := (Oq (pat := pa_impl_FormBatch) 6 (fun d k => (Ap (B2 d.1 d.2.1 d.2.2.1 d.2.2.2.1) d.1 d.2.1 d.2.2.1 d.2.2.2.1).bind (Fo k)) Q7)
theorem G3 : A3 Try.prog Eb where
 sd := Xa (l := [(66, sd_impl_ValidBatch), (68, sd_impl_be)]) ⟨Gi, Xl, trivial⟩
 inl := fun f fn h => by
  simp only [Eb] at h
  split at h
  ·rename_i e; subst e; cases h; exact ⟨Try.func67, by kernel_rfl, by kernel_rfl⟩
  cases h
 cc := fun f BT h => by cases h; exact ⟨⟨_, Try.func118, by kernel_rfl, by kernel_rfl⟩, q0⟩
 st := fun f BT e h => by cases h; exact ⟨⟨_, Try.func69, by kernel_rfl, by kernel_rfl⟩, q6⟩
 srt := fun fs fc BT U e h => by cases h
theorem Kd {R : Type} : Cm Try.prog R 45 0 pa_impl_FormBatch Hv co_impl_FormBatch_6 :=
 Ir (cfg := ⟨Eb, 0, 45, pa_impl_FormBatch⟩) 6 [] (fun NX X d => B3  NX X d.1 d.2.1 d.2.2.1 d.2.2.2.1) (fun m d => Ap m d.1 d.2.1 d.2.2.1 d.2.2.2.1) (fun d => B2 d.1 d.2.1 d.2.2.1 d.2.2.2.1) Fo G3 trivial (fun f NX d => by unfold B3; simp only [Ch, C1, B1, Option.bind_assoc, Option.bind_none, Option.bind_some]) (fun _ _ _ => by kernel_rfl)
theorem Ms : Ff Try.prog 19 sd_impl_FormBatch :=
 C8 (pat := pa_impl_FormBatch) [co_impl_FormBatch_6] Hv G3 ⟨Kd, trivial⟩ Try.func19 (de := fun x => Ec x.1) (fun x r h => (Mr x.1).trans h) fun _ => by kernel_rfl
def Ed (k : ByteArray) : Bool := Og k
def Ow : Sig := ⟨[.rd .str], [none], [.rd .bool], [none]⟩
noncomputable def sd_spec_l4KeyOk : SD := ⟨Ow, fun x => some (((Ed x.1), ()), (()))⟩
noncomputable def Fh (a0 : ByteArray) : Option ((((Bool) × Unit) × (Unit))) :=
 bif decide (nI a0.size ≥ 1) then some ((decide (nI a0.size ≤ 20), ()), ()) else some ((false, ()), ())
theorem Ox (a0 : ByteArray) : Fh a0 = some ((Ed a0, ()), ()) := by
 unfold Fh Ed Og Of
 by_cases h : (a0.size : Int) ≥ 1
 ·have : decide ((1 : Int) ≤ (a0.size : Int)) = true := by simpa using h
  simp [nI, this]
 ·have h' : ¬ (1 : Int) ≤ (a0.size : Int) := h
  simp [nI, h']
theorem Oy : Ff Try.prog 70 sd_spec_l4KeyOk :=
 C8 (pat := Jh) [] Q7 (Dg (l := []) trivial) trivial Try.func70 (de := fun x => Fh x.1) (fun x r h => (Ox x.1).trans h) fun _ => by kernel_rfl
def B0 (b : List Chg) : Bool := Am b
def Ll : Sig := ⟨[.rd (.sl Bs)], [none], [.rd .bool], [none]⟩
noncomputable def sd_spec_ValidBatch : SD := ⟨Ll, fun x => some (((B0 x.1), ()), (()))⟩
noncomputable def ta_spec_ValidBatch : Tb := tb [(70, sd_spec_l4KeyOk)]
def pa_spec_ValidBatch : Nat → Pat × (Nat → Pat) := Ns [(5, ⟨[.sl 0 0 Bs], [(0, .lf (.d (.sl Bs))), (3, .lf (.d tI))], []⟩, [(2, p0), (1, ⟨[], [(2, .lf (.d .bool))], []⟩)])]
noncomputable def co_spec_ValidBatch_5 : Code := (Bg (Dh Try.f21)).getD 0 .skip
def Bw (v0 : List Chg) (v3 : Int) : Nat := ((v0.length : Int) - v3).toNat + 1
noncomputable def Bx {R : Type}  (NX : ((List Chg) × (Int) × Unit) → Option R) (X2 : (Unit) → Option R) (X1 : ((Bool) × Unit) → Option R) (v0 : List Chg) (v3 : Int) : Option R :=
 bif decide (v3 < nI v0.length) then bif decide (0 ≤ v3) then bif decide (v3 < nI v0.length) then bif !Ed (v0.getD v3.toNat (ByteArray.mk #[], ByteArray.mk #[], false, ())).1 then X1 (false, ()) else bif decide (0 ≤ v3) then bif decide (v3 < nI v0.length) then bif decide (nI (ByteArray.size (v0.getD v3.toNat (ByteArray.mk #[], ByteArray.mk #[], false, ())).2.1) > 100) then X1 (false, ()) else bif decide (0 ≤ v3) then bif decide (v3 < nI v0.length) then bif (v0.getD v3.toNat (ByteArray.mk #[], ByteArray.mk #[], false, ())).2.2.1 then bif decide (0 ≤ v3) then bif decide (v3 < nI v0.length) then bif !ByteArray.toList (v0.getD v3.toNat (ByteArray.mk #[], ByteArray.mk #[], false, ())).2.1 == (ByteArray.mk #[]).toList then X1 (false, ()) else NX (v0, IntKind.i64.wrap (v3 + 1), ()) else none else none else NX (v0, IntKind.i64.wrap (v3 + 1), ()) else none else none else none else none else none else none else X2 PUnit.unit
noncomputable def Ax : Nat → (List Chg) → (Int) →  Option ((Unit) ⊕ ((Bool) × Unit))
 | 0, _, _ => none
 | m + 1, v0, v3 => Bx  (fun d => Ax m d.1 d.2.1) (fun d => some (.inl (d))) (fun d => some (.inr (d))) v0 v3
noncomputable def Du (a0 : List Chg) : Option ((((Bool) × Unit) × (Unit))) :=
 bif decide (nI a0.length < 1) then some ((false, ()), ()) else bif decide (nI a0.length > 20) then some ((false, ()), ()) else ((fun d => Ax (Bw d.1 d.2.1) d.1 d.2.1) (a0, 0, ())).bind fun val => Ip (fun d => some ((true, ()), ())) (fun d => some (d, ())) val
theorem Lm (a0 : List Chg) : Du a0 = some (((B0 a0), ()), (())) := by
 unfold Du B0 Am
 have tl : ByteArray.toList (ByteArray.mk #[]) = [] := by decide +kernel
 rw [Aar (nI (List.length a0))]
 show (bif Of (a0.length : Int) 1 20 then _ else _) = _
 cases hin : Of (a0.length : Int) 1 20 with
 | false => rfl
 | true =>
  have hlen : a0.length ≤ 20 := by have := (Rb hin).2; omega
  have hL := Q9 (n := a0.length) (fun i => Eo (a0.getD i zC)) (g := fun m i => Ax m a0 i) (ok := .inl ()) (bad := .inr (false, ())) (fun m i hi => by
   show Ax (m + 1) a0 i = _
   simp only [Ax, Bx]
   rw [tl, cLt hi, i5, wI (show i < 4611686018427387904 by omega), Int.toNat_natCast]
   have g1 : decide (nI (ByteArray.size (List.getD a0 i (ByteArray.mk #[], ByteArray.mk #[], false, ())).2.1) > 100) = !decide ((a0.getD i zC).2.1.size ≤ 100) := x8 _ 100
   rw [g1]
   show (bif !Og (a0.getD i zC).1 then _ else (bif _ then _ else (bif (a0.getD i zC).2.2.1 then (bif !((a0.getD i zC).2.1.toList == []) then _ else _) else _))) = _
   unfold Eo
   cases Og (a0.getD i zC).1 <;> cases decide ((a0.getD i zC).2.1.size ≤ 100) <;> cases (a0.getD i zC).2.2.1 <;> cases ((a0.getD i zC).2.1.toList == []) <;> rfl) (fun m => by
   show Ax (m + 1) a0 (a0.length : Int) = _
   simp only [Ax, Bx]
   rw [i4]
   rfl) (Bw a0 0) 0 (by omega) (by simp [Bw, nI])
  refine bi_ hL ?_
  rw [Nat.sub_zero]
  cases (List.range' 0 a0.length).all (fun i => Eo (a0.getD i zC)) <;> rfl
noncomputable def Fd {R : Type} (k : Kt R) := (Ip (V3 (pa_spec_ValidBatch 5) (.exit 0) 2 k) (V3 (pa_spec_ValidBatch 5) .ret 1 k))
noncomputable def G4 {R : Type} : Lt R pa_spec_ValidBatch := (Oq (pat := pa_spec_ValidBatch) 5 (fun d k => (Ax (Bw d.1 d.2.1) d.1 d.2.1).bind (Fd k)) Q7)
theorem Gj : A3 Try.prog ta_spec_ValidBatch := Dg ⟨Oy, trivial⟩
theorem Jv {R : Type} : Cm Try.prog R 49 0 pa_spec_ValidBatch G4 co_spec_ValidBatch_5 :=
 Ir (cfg := ⟨ta_spec_ValidBatch, 0, 49, pa_spec_ValidBatch⟩) 5 [] (fun NX X d => Bx  NX (fun e => X (.inl (e))) (fun e => X (.inr (e))) d.1 d.2.1) (fun m d => Ax m d.1 d.2.1) (fun d => Bw d.1 d.2.1) Fd Gj trivial (fun f NX d => by unfold Bx; simp only [Ch, C1, B1, Option.bind_assoc, Option.bind_none, Option.bind_some]) (fun _ _ _ => by kernel_rfl)
theorem Gk : Ff Try.prog 21 sd_spec_ValidBatch :=
 C8 (pat := pa_spec_ValidBatch) [co_spec_ValidBatch_5] G4 Gj ⟨Jv, trivial⟩ Try.func21 (de := fun x => Du x.1) (fun x r h => (Lm x.1).trans h) fun _ => by kernel_rfl
def Av (b : List Chg) : ByteArray := Bi b
def Mt : Sig := ⟨[.rd (.sl Bs)], [none], [.rd .str], [none]⟩
noncomputable def sd_spec_FormBatch : SD := ⟨Mt, fun x => some (((Av x.1), ()), (()))⟩
noncomputable def ta_spec_FormBatch : Tb := tb [(21, sd_spec_ValidBatch)]
def pa_spec_FormBatch : Nat → Pat × (Nat → Pat) := Ns [(6, ⟨[.sl 0 0 Bs, .row 3 0 5 (.int .u8)], [(0, .lf (.d (.sl Bs))), (3, .lf (.row 0)), (4, .lf (.d tI))], [.row 5 (.int .u8)]⟩, [(2, ⟨[.row 3 0 5 (.int .u8)], [(3, .lf (.row 0))], [.row 5 (.int .u8)]⟩)])]
noncomputable def co_spec_FormBatch_6 : Code := (Bg (Dh Try.f20)).getD 0 .skip
def B4 (v0 : List Chg) (v4 : Int) (r0 : List Int) : Nat := ((v0.length : Int) - v4).toNat + 1
noncomputable def B5 {R : Type}  (NX : ((List Chg) × (Int) × (List Int) × Unit) → Option R) (X2 : ((List Int) × Unit) → Option R) (v0 : List Chg) (v4 : Int) (r0 : List Int) : Option R :=
 bif decide (v4 < nI v0.length) then bif decide (0 ≤ v4) then bif decide (v4 < nI v0.length) then bif (v0.getD v4.toNat (ByteArray.mk #[], ByteArray.mk #[], false, ())).2.2.1 then bif decide (0 ≤ v4) then bif decide (v4 < nI v0.length) then bif decide ((r0.length + [1, IntKind.u8.wrap (nI (ByteArray.size (v0.getD v4.toNat (ByteArray.mk #[], ByteArray.mk #[], false, ())).1))].length) * 1 ≤ 140737488355328) then bif decide (0 ≤ v4) then bif decide (v4 < nI v0.length) then bif decide ((r0 ++ [1, IntKind.u8.wrap (nI (ByteArray.size (v0.getD v4.toNat (ByteArray.mk #[], ByteArray.mk #[], false, ())).1))]).length + ByteArray.size (v0.getD v4.toNat (ByteArray.mk #[], ByteArray.mk #[], false, ())).1 ≤ 140737488355328) then NX (v0, IntKind.i64.wrap (v4 + 1), r0 ++ [1, IntKind.u8.wrap (nI (ByteArray.size (v0.getD v4.toNat (ByteArray.mk #[], ByteArray.mk #[], false, ())).1))] ++ Aa (v0.getD v4.toNat (ByteArray.mk #[], ByteArray.mk #[], false, ())).1, ()) else none else none else none else none else none else none else bif decide (0 ≤ v4) then bif decide (v4 < nI v0.length) then bif decide ((r0.length + [0, IntKind.u8.wrap (nI (ByteArray.size (v0.getD v4.toNat (ByteArray.mk #[], ByteArray.mk #[], false, ())).1))].length) * 1 ≤ 140737488355328) then bif decide (0 ≤ v4) then bif decide (v4 < nI v0.length) then bif decide ((r0 ++ [0, IntKind.u8.wrap (nI (ByteArray.size (v0.getD v4.toNat (ByteArray.mk #[], ByteArray.mk #[], false, ())).1))]).length + ByteArray.size (v0.getD v4.toNat (ByteArray.mk #[], ByteArray.mk #[], false, ())).1 ≤ 140737488355328) then bif decide (0 ≤ v4) then bif decide (v4 < nI v0.length) then bif decide (((r0 ++ [0, IntKind.u8.wrap (nI (ByteArray.size (v0.getD v4.toNat (ByteArray.mk #[], ByteArray.mk #[], false, ())).1))] ++ Aa (v0.getD v4.toNat (ByteArray.mk #[], ByteArray.mk #[], false, ())).1).length + [IntKind.u8.wrap (nI (ByteArray.size (v0.getD v4.toNat (ByteArray.mk #[], ByteArray.mk #[], false, ())).2.1))].length) * 1 ≤ 140737488355328) then bif decide (0 ≤ v4) then bif decide (v4 < nI v0.length) then bif decide ((r0 ++ [0, IntKind.u8.wrap (nI (ByteArray.size (v0.getD v4.toNat (ByteArray.mk #[], ByteArray.mk #[], false, ())).1))] ++ Aa (v0.getD v4.toNat (ByteArray.mk #[], ByteArray.mk #[], false, ())).1 ++ [IntKind.u8.wrap (nI (ByteArray.size (v0.getD v4.toNat (ByteArray.mk #[], ByteArray.mk #[], false, ())).2.1))]).length + ByteArray.size (v0.getD v4.toNat (ByteArray.mk #[], ByteArray.mk #[], false, ())).2.1 ≤ 140737488355328) then NX (v0, IntKind.i64.wrap (v4 + 1), r0 ++ [0, IntKind.u8.wrap (nI (ByteArray.size (v0.getD v4.toNat (ByteArray.mk #[], ByteArray.mk #[], false, ())).1))] ++ Aa (v0.getD v4.toNat (ByteArray.mk #[], ByteArray.mk #[], false, ())).1 ++ [IntKind.u8.wrap (nI (ByteArray.size (v0.getD v4.toNat (ByteArray.mk #[], ByteArray.mk #[], false, ())).2.1))] ++ Aa (v0.getD v4.toNat (ByteArray.mk #[], ByteArray.mk #[], false, ())).2.1, ()) else none else none else none else none else none else none else none else none else none else none else none else none else none else none else X2 (r0, ())
noncomputable def Ay : Nat → (List Chg) → (Int) → (List Int) →  Option ((List Int) × Unit)
 | 0, _, _, _ => none
 | m + 1, v0, v4, r0 => B5  (fun d => Ay m d.1 d.2.1 d.2.2.1) (fun d => some (d)) v0 v4 r0
noncomputable def Ee (a0 : List Chg) : Option ((((ByteArray) × Unit) × (Unit))) :=
 bif !B0 a0 then some ((ByteArray.mk #[], ()), ()) else ((fun d => Ay (B4 d.1 d.2.1 d.2.2.1) d.1 d.2.1 d.2.2.1) (a0, 0, [], ())).bind fun val => some ((strOfNums val.1, ()), ())
theorem Mu (a0 : List Chg) : Ee a0 = some ((Av a0, ()), (())) := by
 unfold Ee Av Bi
 show (bif !Am a0 then _ else _) = _
 cases hv : Am a0 with
 | false => rfl
 | true =>
  obtain ⟨hlen, hok⟩ := Hd hv
  have hL := Ur a0.length Re (fun i r => r ++ Fg (a0.getD i zC)) (g := fun m i r => Ay m a0 i r) (ok := fun r => (r, ())) (fun m i r hi hr => by
   show Ay (m + 1) a0 i r = _
   simp only [Ay, B5]
   have hc := hok i hi
   obtain ⟨k1, k2, k3⟩ := Ka hc
   rw [cLt hi, i5, wI (show i < 4611686018427387904 by omega), Int.toNat_natCast]
   have hr1 := hr.1
   have eC : List.getD a0 i (ByteArray.mk #[], ByteArray.mk #[], false, ()) = a0.getD i zC := rfl
   rw [eC]
   generalize a0.getD i zC = c at *
   rw [x9 _ (show c.1.size < 256 by omega), x9 _ (show c.2.1.size < 256 by omega)]
   simp only [List.length_append, List.length_cons, List.length_nil, Cs]
   rw [decide_eq_true (show (r.length + (0 + 1 + 1)) * 1 ≤ 140737488355328 by omega), decide_eq_true (show r.length + (0 + 1 + 1) + c.1.size ≤ 140737488355328 by omega), decide_eq_true (show (r.length + (0 + 1 + 1) + c.1.size + (0 + 1)) * 1 ≤ 140737488355328 by omega), decide_eq_true (show r.length + (0 + 1 + 1) + c.1.size + (0 + 1) + c.2.1.size ≤ 140737488355328 by omega)]
   unfold Fg
   simp only [cond_true]
   cases c.2.2.1 <;> simp only [cond_true, cond_false, List.append_assoc]) (fun m r _ => by
   show Ay (m + 1) a0 (a0.length : Int) r = _
   simp only [Ay, B5]
   rw [i4]
   rfl) (fun i r hi hr => hr.step (hok i hi)) a0.length (B4 a0 0 []) 0 [] (by omega) (by simp [B4, nI]) ⟨by simp, rfl⟩
  rw [Rc Fg zC a0 a0.length 0 [] (by omega), List.nil_append, List.drop_zero] at hL
  refine bi_ hL ?_
  rfl
noncomputable def Fp {R : Type} (k : Kt R) := (V3 (pa_spec_FormBatch 6) (.exit 0) 2 k)
noncomputable def Hw {R : Type} : Lt R pa_spec_FormBatch := (Oq (pat := pa_spec_FormBatch) 6 (fun d k => (Ay (B4 d.1 d.2.1 d.2.2.1) d.1 d.2.1 d.2.2.1).bind (Fp k)) Q7)
theorem G5 : A3 Try.prog ta_spec_FormBatch := Dg ⟨Gk, trivial⟩
theorem Ke {R : Type} : Cm Try.prog R 70 0 pa_spec_FormBatch Hw co_spec_FormBatch_6 :=
 Ir (cfg := ⟨ta_spec_FormBatch, 0, 70, pa_spec_FormBatch⟩) 6 [] (fun NX X d => B5  NX X d.1 d.2.1 d.2.2.1) (fun m d => Ay m d.1 d.2.1 d.2.2.1) (fun d => B4 d.1 d.2.1 d.2.2.1) Fp G5 trivial (fun f NX d => by unfold B5; simp only [Ch, C1, B1, Option.bind_assoc, Option.bind_none, Option.bind_some]) (fun _ _ _ => by kernel_rfl)
theorem Ef : Ff Try.prog 20 sd_spec_FormBatch :=
 C8 (pat := pa_spec_FormBatch) [co_spec_FormBatch_6] Hw G5 ⟨Ke, trivial⟩ Try.func20 (de := fun x => Ee x.1) (fun x r h => (Mu x.1).trans h) fun _ => by kernel_rfl
def Bf (s : ByteArray) : (ByteArray × Bool) × ByteArray := (((Ah s).1, (Ah s).2.2), (Ah s).2.1)
def Kf : Sig := ⟨[.bx 9 .str], [none], [.rd .str, .rd .bool], [none, none]⟩
noncomputable def sd_impl_ReadBatch_1 : SD := ⟨Kf, fun x => some (((Bf x.1).1.1, (Bf x.1).1.2, ()), ((Bf x.1).2, ()))⟩
noncomputable def Di (a0 : ByteArray) : Option ((((ByteArray) × (Bool) × Unit) × ((ByteArray) × Unit))) :=
 bif decide (nI a0.size < 1) then some ((ByteArray.mk #[], false, ()), a0, ()) else bif decide (0 < nI a0.size) then bif decide (nI a0.size < IntKind.i64.wrap (1 + IntKind.i64.wrap (Af a0 0))) then some ((ByteArray.mk #[], false, ()), a0, ()) else bif decide (0 < nI a0.size) then bif decide (1 ≤ IntKind.i64.wrap (1 + IntKind.i64.wrap (Af a0 0))) then bif decide (IntKind.i64.wrap (1 + IntKind.i64.wrap (Af a0 0)) ≤ nI a0.size) then bif decide (0 < nI a0.size) then bif decide (0 ≤ IntKind.i64.wrap (1 + IntKind.i64.wrap (Af a0 0))) then bif decide (IntKind.i64.wrap (1 + IntKind.i64.wrap (Af a0 0)) ≤ nI a0.size) then some ((Ab a0 1 (IntKind.i64.wrap (1 + IntKind.i64.wrap (Af a0 0))), true, ()), Ab a0 (IntKind.i64.wrap (1 + IntKind.i64.wrap (Af a0 0))) (nI a0.size), ()) else none else none else none else none else none else none else none
theorem Kg (a0 : ByteArray) : Di a0 = some (((Bf a0).1.1, (Bf a0).1.2, ()), ((Bf a0).2, ())) := by
 unfold Di Bf Ah
 obtain ⟨b0, b1⟩ := Hp a0 0
 have hw : IntKind.i64.wrap (1 + IntKind.i64.wrap (Af a0 0)) = 1 + Af a0 0 := by
  rw [At (n := Af a0 0) (by omega) (by omega), At (by omega) (by omega)]
 rw [hw]
 by_cases h0 : (a0.size : Int) < 1
 ·rw [if_pos (Or.inl h0), decide_eq_true (show nI a0.size < 1 from h0)]
  rfl
 ·rw [decide_eq_false (show ¬ nI a0.size < 1 from h0), decide_eq_true (show 0 < nI a0.size by simp only [nI]; omega)]
  by_cases h1 : (a0.size : Int) < 1 + Af a0 0
  ·rw [if_pos (Or.inr h1), decide_eq_true (show nI a0.size < 1 + Af a0 0 from h1)]
   rfl
  ·rw [if_neg (by omega), decide_eq_false (show ¬ nI a0.size < 1 + Af a0 0 from h1), decide_eq_true (show 1 ≤ 1 + Af a0 0 by omega), decide_eq_true (show 0 ≤ 1 + Af a0 0 by omega), decide_eq_true (show 1 + Af a0 0 ≤ nI a0.size by simp only [nI]; omega)]
   rfl
theorem Kh : Ff Try.prog 71 sd_impl_ReadBatch_1 :=
 C8 (pat := Jh) [] Q7 (Dg (l := []) trivial) trivial Try.func71 (de := fun x => Di x.1) (fun x r h => (Kg x.1).trans h) fun _ => by kernel_rfl
def Aj (s : ByteArray) : List Chg × Bool := D6 s
def Dj (r0 : List Chg) (b1 : ByteArray) : Nat := 22
def Mv : Sig := ⟨[.rd .str], [none], [.own 90 Bs, .rd .bool], [none, none]⟩
noncomputable def sd_impl_ReadBatch : SD := ⟨Mv, fun x => some (((Aj x.1).1, (Aj x.1).2, ()), (()))⟩
noncomputable def ta_impl_ReadBatch : Tb := tb [(66, sd_impl_ValidBatch), (71, sd_impl_ReadBatch_1)]
def pa_impl_ReadBatch : Nat → Pat × (Nat → Pat) := Ns [(5, ⟨[.row 4 0 90 Bs], [(4, .lf (.row 0)), (5, .lf (.ptr 1 0)), (6, .fn 71 [.ptr 1 0])], [.row 90 Bs, .box 9 [.d .str]]⟩, [(2, ⟨[.row 4 0 90 Bs], [(4, .lf (.row 0)), (5, .lf (.ptr 1 0))], [.row 90 Bs, .box 9 [.d .str]]⟩), (1, ⟨[.row 2 0 90 Bs], [(2, .lf (.row 0)), (3, .lf (.d .bool))], [.row 90 Bs]⟩)])]
noncomputable def co_impl_ReadBatch_5 : Code := (Bg (Dh Try.f22)).getD 0 .skip
noncomputable def Cq {R : Type}  (NX : ((List Chg) × (ByteArray) × Unit) → Option R) (X2 : ((List Chg) × (ByteArray) × Unit) → Option R) (X1 : ((Bool) × (List Chg) × Unit) → Option R) (r0 : List Chg) (b1 : ByteArray) : Option R :=
 bif decide (nI b1.size > 0) then bif decide (nI r0.length ≤ 20) then bif decide (0 < nI b1.size) then bif decide (1 ≤ nI b1.size) then bif decide (Af b1 0 > 1) then X1 (false, [], ()) else bif !(Ah (Ab b1 1 (nI b1.size))).2.2 then X1 (false, [], ()) else bif Af b1 0 == 0 then bif !(Ah (Ah (Ab b1 1 (nI b1.size))).2.1).2.2 then X1 (false, [], ()) else bif decide ((r0.length + [((Ah (Ab b1 1 (nI b1.size))).1, (Ah (Ah (Ab b1 1 (nI b1.size))).2.1).1, Af b1 0 == 1, ())].length) * 40 ≤ 140737488355328) then NX (r0 ++ [((Ah (Ab b1 1 (nI b1.size))).1, (Ah (Ah (Ab b1 1 (nI b1.size))).2.1).1, Af b1 0 == 1, ())], (Ah (Ah (Ab b1 1 (nI b1.size))).2.1).2.1, ()) else none else bif decide ((r0.length + [((Ah (Ab b1 1 (nI b1.size))).1, ByteArray.mk #[], Af b1 0 == 1, ())].length) * 40 ≤ 140737488355328) then NX (r0 ++ [((Ah (Ab b1 1 (nI b1.size))).1, ByteArray.mk #[], Af b1 0 == 1, ())], (Ah (Ab b1 1 (nI b1.size))).2.1, ()) else none else none else none else X2 (r0, b1, ()) else X2 (r0, b1, ())
noncomputable def Bk : Nat → (List Chg) → (ByteArray) →  Option (((List Chg) × (ByteArray) × Unit) ⊕ ((Bool) × (List Chg) × Unit))
 | 0, _, _ => none
 | m + 1, r0, b1 => Cq  (fun d => Bk m d.1 d.2.1) (fun d => some (.inl (d))) (fun d => some (.inr (d))) r0 b1
noncomputable def Eg (a0 : ByteArray) : Option ((((List Chg) × (Bool) × Unit) × (Unit))) :=
 ((fun d => Bk (Dj d.1 d.2.1) d.1 d.2.1) ([], a0, ())).bind fun val => Ip (fun d => bif decide (nI (ByteArray.size d.2.1) > 0) then some (([], false, ()), ()) else bif !Ck d.1 then some (([], false, ()), ()) else some ((d.1, true, ()), ())) (fun d => some ((d.2.1, d.1, ()), ())) val
def Abs (o : Option (List Chg × ByteArray)) : (List Chg × ByteArray × Unit) ⊕ (Bool × List Chg × Unit) := match o with
 | some (b, t) => .inl (b, t, ())
 | none => .inr (false, [], ())
theorem Rn : ∀ (f m : Nat) (r : List Chg) (s : ByteArray), r.length + f = 22 → f ≤ m → 1 ≤ f → Bk m r s = some (Abs (Dr true f r s))
 | 0, _, _, _, _, _, h => by omega
 | f + 1, 0, _, _, _, h, _ => by omega
 | f + 1, m + 1, r, s, hf, hm, _ => by
  simp only [Bk, Cq, Dr]
  by_cases hs : s.size > 0
  ·rw [decide_eq_true (show nI s.size > 0 by simp only [nI]; omega), decide_eq_true hs]
   by_cases hr : r.length ≤ 20
   ·rw [decide_eq_true (show nI r.length ≤ 20 by simp only [nI]; omega), decide_eq_true hr, decide_eq_true (show 1 ≤ nI s.size by simp only [nI]; omega)]
    unfold Oi
    obtain ⟨b0, b1⟩ := Hp s 0
    generalize Ah (Ab s 1 (nI s.size)) = p
    simp only [List.length_singleton, Bool.true_and, cond_true, Bool.and_self]
    rw [decide_eq_true (show (r.length + 1) * 40 ≤ 140737488355328 by omega)]
    by_cases h1 : Af s 0 > 1
    ·rw [decide_eq_true h1]; rfl
    ·rw [decide_eq_false h1]
     obtain ⟨k, t, o⟩ := p
     cases o
     ·rfl
     ·by_cases h2 : Af s 0 = 0
      ·rw [h2]
       simp only [Bool.not_true, cond_false, cond_true]
       generalize Ah t = q
       obtain ⟨v, u, o⟩ := q
       cases o
       ·rfl
       ·exact Rn f m (r ++ [(k, v, false, ())]) u (by rw [List.length_append, List.length_singleton]; omega) (by omega) (by omega)
      ·have h3 : Af s 0 = 1 := by omega
       rw [h3]
       exact Rn f m (r ++ [(k, ByteArray.mk #[], true, ())]) t (by rw [List.length_append, List.length_singleton]; omega) (by omega) (by omega)
   ·rw [decide_eq_false (show ¬ nI r.length ≤ 20 by simp only [nI]; omega), decide_eq_false hr]
    rfl
  ·rw [decide_eq_false (show ¬ nI s.size > 0 by simp only [nI]; omega), decide_eq_false hs]
   rfl
theorem Mw (a0 : ByteArray) : Eg a0 = some (((Aj a0).1, (Aj a0).2, ()), (())) := by
 unfold Eg Aj D6
 have hL := Rn 22 22 [] a0 rfl (Nat.le_refl _) (by omega)
 refine bi_ hL ?_
 cases Dr true 22 [] a0 with
 | none => rfl
 | some bt =>
  obtain ⟨b, t⟩ := bt
  show (bif decide (nI t.size > 0) then _ else (bif !Am b then _ else _)) = _
  have e : decide (nI t.size > 0) = decide (t.size > 0) := decide_eq_decide.2 (by simp only [nI]; omega)
  rw [e]
  simp only
  cases decide (t.size > 0) <;> cases Am b <;> rfl
noncomputable def Fq {R : Type} (k : Kt R) := (Ip (V3 (pa_impl_ReadBatch 5) (.exit 0) 2 k) (V3 (pa_impl_ReadBatch 5) .ret 1 k))
noncomputable def Hx {R : Type} : Lt R pa_impl_ReadBatch := (Oq (pat := pa_impl_ReadBatch) 5 (fun d k => (Bk (Dj d.1 d.2.1) d.1 d.2.1).bind (Fq k)) Q7)
theorem G6 : A3 Try.prog ta_impl_ReadBatch := Dg ⟨Gi, Kh, trivial⟩
theorem Ki {R : Type} : Cm Try.prog R 63 0 pa_impl_ReadBatch Hx co_impl_ReadBatch_5 :=
 Ir (cfg := ⟨ta_impl_ReadBatch, 0, 63, pa_impl_ReadBatch⟩) 5 [] (fun NX X d => Cq  NX (fun e => X (.inl (e))) (fun e => X (.inr (e))) d.1 d.2.1) (fun m d => Bk m d.1 d.2.1) (fun d => Dj d.1 d.2.1) Fq G6 trivial (fun f NX d => by unfold Cq; simp only [Ch, C1, B1, Option.bind_assoc, Option.bind_none, Option.bind_some]) (fun _ _ _ => by kernel_rfl)
theorem Mx : Ff Try.prog 22 sd_impl_ReadBatch :=
 C8 (pat := pa_impl_ReadBatch) [co_impl_ReadBatch_5] Hx G6 ⟨Ki, trivial⟩ Try.func22 (de := fun x => Eg x.1) (fun x r h => (Mw x.1).trans h) fun _ => by kernel_rfl
def Dn (a b : List Chg) : Option Bool := if a.length ≤ 1073741824 then some (Zf (fun x y : Chg => Xb Bs x y) a b) else none
def Ro : Sig := ⟨[.rd (.sl Bs), .rd (.sl Bs)], [none, none], [.rd .bool], [none]⟩
noncomputable def sd_laws_wBatch : SD := ⟨Ro, fun x => (Dn x.1 x.2.1).bind fun r => some ((r, ()), (()))⟩
noncomputable def ta_laws_wBatch : Tb := tb []
def pa_laws_wBatch : Nat → Pat × (Nat → Pat) := Ns [(5, ⟨[.sl 0 0 Bs, .sl 1 0 Bs], [(0, .lf (.d (.sl Bs))), (1, .lf (.d (.sl Bs))), (5, .lf (.d tI))], []⟩, [(2, p0), (1, ⟨[], [(4, .lf (.d .bool))], []⟩)])]
noncomputable def co_laws_wBatch_5 : Code := (Bg (Dh Try.f23)).getD 0 .skip
def Ct (v0 : List Chg) (v1 : List Chg) (v5 : Int) : Nat := ((v0.length : Int) - v5).toNat + 1
noncomputable def Cu {R : Type}  (NX : ((List Chg) × (List Chg) × (Int) × Unit) → Option R) (X2 : (Unit) → Option R) (X1 : ((Bool) × Unit) → Option R) (v0 : List Chg) (v1 : List Chg) (v5 : Int) : Option R :=
 bif decide (v5 < nI v0.length) then bif decide (0 ≤ v5) then bif decide (v5 < nI v0.length) then bif decide (0 ≤ v5) then bif decide (v5 < nI v1.length) then bif !(ByteArray.toList (v0.getD v5.toNat (ByteArray.mk #[], ByteArray.mk #[], false, ())).1 == ByteArray.toList (v1.getD v5.toNat (ByteArray.mk #[], ByteArray.mk #[], false, ())).1 && (ByteArray.toList (v0.getD v5.toNat (ByteArray.mk #[], ByteArray.mk #[], false, ())).2.1 == ByteArray.toList (v1.getD v5.toNat (ByteArray.mk #[], ByteArray.mk #[], false, ())).2.1 && ((v0.getD v5.toNat (ByteArray.mk #[], ByteArray.mk #[], false, ())).2.2.1 == (v1.getD v5.toNat (ByteArray.mk #[], ByteArray.mk #[], false, ())).2.2.1 && true))) then X1 (false, ()) else NX (v0, v1, IntKind.i64.wrap (v5 + 1), ()) else none else none else none else none else X2 PUnit.unit
noncomputable def A7 : Nat → (List Chg) → (List Chg) → (Int) →  Option ((Unit) ⊕ ((Bool) × Unit))
 | 0, _, _, _ => none
 | m + 1, v0, v1, v5 => Cu  (fun d => A7 m d.1 d.2.1 d.2.2.1) (fun d => some (.inl (d))) (fun d => some (.inr (d))) v0 v1 v5
noncomputable def Gl (a0 : List Chg) (a1 : List Chg) : Option ((((Bool) × Unit) × (Unit))) :=
 bif nI a0.length != nI a1.length then some ((false, ()), ()) else ((fun d => A7 (Ct d.1 d.2.1 d.2.2.1) d.1 d.2.1 d.2.2.1) (a0, a1, 0, ())).bind fun val => Ip (fun d => some ((true, ()), ())) (fun d => some (d, ())) val
theorem Rp (a0 : List Chg) (a1 : List Chg) r (h : Dn a0 a1 = some r) : Gl a0 a1 = some ((r, ()), (())) := by
 unfold Dn at h
 split at h
 rotate_left
 ·cases h
 rename_i hlen
 cases h
 unfold Gl
 by_cases hl : a1.length = a0.length
 ·have c1 : (nI a0.length != nI a1.length) = false := by simp [nI, hl]
  rw [c1]
  have hL := Yl (xs := a0) (ys := a1) zC (fun x y : Chg => Xb Bs x y) (g := fun m i => A7 m a0 a1 i) (ok := .inl ()) (bad := .inr (false, ())) hl (fun m i hi => by
   show A7 (m + 1) a0 a1 i = _
   simp only [A7, Cu]
   rw [cLt hi, i5, cLt (show i < a1.length by omega), wI (by omega)]
   simp only [cond_true, Int.toNat_natCast]
   show (bif !((fun x y : Chg => Xb Bs x y) (a0.getD i zC) (a1.getD i zC)) then _ else _) = bif (fun x y : Chg => Xb Bs x y) (a0.getD i zC) (a1.getD i zC) then _ else _
   cases (fun x y : Chg => Xb Bs x y) (a0.getD i zC) (a1.getD i zC) <;> rfl) (fun m => by
   show A7 (m + 1) a0 a1 (a0.length : Int) = _
   simp only [A7, Cu]
   rw [i4]
   rfl) (Ct a0 a1 0) 0 (by omega) (by simp [Ct, nI])
  refine Aau hL ?_
  rw [List.drop_zero, List.drop_zero]
  cases Zf (fun x y : Chg => Xb Bs x y) a0 a1 <;> rfl
 ·have c1 : (nI a0.length != nI a1.length) = true := by simp [nI]; omega
  rw [c1, show Zf (fun x y : Chg => Xb Bs x y) a0 a1 = false from Yk fun q => hl q.symm]
  rfl
noncomputable def Hy {R : Type} (k : Kt R) := (Ip (V3 (pa_laws_wBatch 5) (.exit 0) 2 k) (V3 (pa_laws_wBatch 5) .ret 1 k))
noncomputable def Kr {R : Type} : Lt R pa_laws_wBatch := (Oq (pat := pa_laws_wBatch) 5 (fun d k => (A7 (Ct d.1 d.2.1 d.2.2.1) d.1 d.2.1 d.2.2.1).bind (Hy k)) Q7)
theorem Jw : A3 Try.prog ta_laws_wBatch := Dg trivial
theorem Nz {R : Type} : Cm Try.prog R 26 0 pa_laws_wBatch Kr co_laws_wBatch_5 :=
 Ir (cfg := ⟨ta_laws_wBatch, 0, 26, pa_laws_wBatch⟩) 5 [] (fun NX X d => Cu  NX (fun e => X (.inl (e))) (fun e => X (.inr (e))) d.1 d.2.1 d.2.2.1) (fun m d => A7 m d.1 d.2.1 d.2.2.1) (fun d => Ct d.1 d.2.1 d.2.2.1) Hy Jw trivial (fun f NX d => by unfold Cu; simp only [Ch, C1, B1, Option.bind_assoc, Option.bind_none, Option.bind_some]) (fun _ _ _ => by kernel_rfl)
theorem Rq : Ff Try.prog 23 sd_laws_wBatch :=
 C8 (pat := pa_laws_wBatch) [co_laws_wBatch_5] Kr Jw ⟨Nz, trivial⟩ Try.func23 (de := fun x => Gl x.1 x.2.1) (fun x r h => Uo (Rp x.1 x.2.1) h) fun _ => by kernel_rfl
def Rr : Sig := ⟨[.bx 154 (.pair (.sl (.int .u8)) (.pair tI .unit)), .rd .str], [none, none], [.rd .str], [none]⟩
noncomputable def Eh (a0 : (List Int) × Int × Unit) (a1 : ByteArray) : Option ((((ByteArray) × Unit) × (((List Int) × Int × Unit) × Unit))) :=
 ((Ac a0 256).bind fun val => some ((val.1, ()), val.2, ())).bind fun val => ((Ac val.2.1 5).bind fun val => some ((val.1, ()), val.2, ())).bind fun val_1 => bif val_1.1.1 == 0 then bif decide (0 ≤ IntKind.i64.wrap ((IntKind.i64.wrap (val.1.1 * IntKind.i64.wrap (nI a1.size + 1))).tdiv 256)) then bif decide (IntKind.i64.wrap ((IntKind.i64.wrap (val.1.1 * IntKind.i64.wrap (nI a1.size + 1))).tdiv 256) ≤ nI a1.size) then some ((Ab a1 0 (IntKind.i64.wrap ((IntKind.i64.wrap (val.1.1 * IntKind.i64.wrap (nI a1.size + 1))).tdiv 256)), ()), val_1.2) else none else none else bif val_1.1.1 == 1 then bif decide (0 ≤ IntKind.i64.wrap ((IntKind.i64.wrap (val.1.1 * IntKind.i64.wrap (nI a1.size + 1))).tdiv 256)) then bif decide (IntKind.i64.wrap ((IntKind.i64.wrap (val.1.1 * IntKind.i64.wrap (nI a1.size + 1))).tdiv 256) ≤ nI a1.size) then ((Ac val_1.2.1 6).bind fun val => some ((val.1, ()), val.2, ())).bind fun val_2 => bif decide (0 ≤ val_2.1.1) then bif decide (val_2.1.1 < nI [ByteArray.mk #[32], ByteArray.mk #[10], ByteArray.mk #[0], ByteArray.mk #[1], ByteArray.mk #[48], ByteArray.mk #[120]].length) then bif decide ((Ab a1 0 (IntKind.i64.wrap ((IntKind.i64.wrap (val.1.1 * IntKind.i64.wrap (nI a1.size + 1))).tdiv 256))).size + ByteArray.size ([ByteArray.mk #[32], ByteArray.mk #[10], ByteArray.mk #[0], ByteArray.mk #[1], ByteArray.mk #[48], ByteArray.mk #[120]].getD (Int.toNat val_2.1.1) (ByteArray.mk #[])) ≤ 9223372036854775807) then bif decide (0 ≤ IntKind.i64.wrap ((IntKind.i64.wrap (val.1.1 * IntKind.i64.wrap (nI a1.size + 1))).tdiv 256)) then bif decide (IntKind.i64.wrap ((IntKind.i64.wrap (val.1.1 * IntKind.i64.wrap (nI a1.size + 1))).tdiv 256) ≤ nI a1.size) then bif decide ((Ab a1 0 (IntKind.i64.wrap ((IntKind.i64.wrap (val.1.1 * IntKind.i64.wrap (nI a1.size + 1))).tdiv 256)) ++ [ByteArray.mk #[32], ByteArray.mk #[10], ByteArray.mk #[0], ByteArray.mk #[1], ByteArray.mk #[48], ByteArray.mk #[120]].getD (Int.toNat val_2.1.1) (ByteArray.mk #[])).size + (Ab a1 (IntKind.i64.wrap ((IntKind.i64.wrap (val.1.1 * IntKind.i64.wrap (nI a1.size + 1))).tdiv 256)) (nI a1.size)).size ≤ 9223372036854775807) then some ((Ab a1 0 (IntKind.i64.wrap ((IntKind.i64.wrap (val.1.1 * IntKind.i64.wrap (nI a1.size + 1))).tdiv 256)) ++ [ByteArray.mk #[32], ByteArray.mk #[10], ByteArray.mk #[0], ByteArray.mk #[1], ByteArray.mk #[48], ByteArray.mk #[120]].getD (Int.toNat val_2.1.1) (ByteArray.mk #[]) ++ Ab a1 (IntKind.i64.wrap ((IntKind.i64.wrap (val.1.1 * IntKind.i64.wrap (nI a1.size + 1))).tdiv 256)) (nI a1.size), ()), val_2.2) else none else none else none else none else none else none else none else none else bif val_1.1.1 == 2 then bif decide (IntKind.i64.wrap ((IntKind.i64.wrap (val.1.1 * IntKind.i64.wrap (nI a1.size + 1))).tdiv 256) < nI a1.size) then bif decide (0 ≤ IntKind.i64.wrap ((IntKind.i64.wrap (val.1.1 * IntKind.i64.wrap (nI a1.size + 1))).tdiv 256)) then bif decide (IntKind.i64.wrap ((IntKind.i64.wrap (val.1.1 * IntKind.i64.wrap (nI a1.size + 1))).tdiv 256) ≤ nI a1.size) then bif decide (0 ≤ IntKind.i64.wrap (IntKind.i64.wrap ((IntKind.i64.wrap (val.1.1 * IntKind.i64.wrap (nI a1.size + 1))).tdiv 256) + 1)) then bif decide (IntKind.i64.wrap (IntKind.i64.wrap ((IntKind.i64.wrap (val.1.1 * IntKind.i64.wrap (nI a1.size + 1))).tdiv 256) + 1) ≤ nI a1.size) then bif decide ((Ab a1 0 (IntKind.i64.wrap ((IntKind.i64.wrap (val.1.1 * IntKind.i64.wrap (nI a1.size + 1))).tdiv 256))).size + (Ab a1 (IntKind.i64.wrap (IntKind.i64.wrap ((IntKind.i64.wrap (val.1.1 * IntKind.i64.wrap (nI a1.size + 1))).tdiv 256) + 1)) (nI a1.size)).size ≤ 9223372036854775807) then some ((Ab a1 0 (IntKind.i64.wrap ((IntKind.i64.wrap (val.1.1 * IntKind.i64.wrap (nI a1.size + 1))).tdiv 256)) ++ Ab a1 (IntKind.i64.wrap (IntKind.i64.wrap ((IntKind.i64.wrap (val.1.1 * IntKind.i64.wrap (nI a1.size + 1))).tdiv 256) + 1)) (nI a1.size), ()), val_1.2) else none else none else none else none else none else bif decide (0 ≤ IntKind.i64.wrap ((IntKind.i64.wrap (val.1.1 * IntKind.i64.wrap (nI a1.size + 1))).tdiv 256)) then bif decide (IntKind.i64.wrap ((IntKind.i64.wrap (val.1.1 * IntKind.i64.wrap (nI a1.size + 1))).tdiv 256) ≤ nI a1.size) then bif decide (a1.size + (Ab a1 (IntKind.i64.wrap ((IntKind.i64.wrap (val.1.1 * IntKind.i64.wrap (nI a1.size + 1))).tdiv 256)) (nI a1.size)).size ≤ 9223372036854775807) then some ((a1 ++ Ab a1 (IntKind.i64.wrap ((IntKind.i64.wrap (val.1.1 * IntKind.i64.wrap (nI a1.size + 1))).tdiv 256)) (nI a1.size), ()), val_1.2) else none else none else none else bif val_1.1.1 == 3 then bif decide (IntKind.i64.wrap ((IntKind.i64.wrap (val.1.1 * IntKind.i64.wrap (nI a1.size + 1))).tdiv 256) < nI a1.size) then bif decide (0 ≤ IntKind.i64.wrap ((IntKind.i64.wrap (val.1.1 * IntKind.i64.wrap (nI a1.size + 1))).tdiv 256)) then bif decide (IntKind.i64.wrap ((IntKind.i64.wrap (val.1.1 * IntKind.i64.wrap (nI a1.size + 1))).tdiv 256) ≤ nI a1.size) then bif decide (0 ≤ IntKind.i64.wrap ((IntKind.i64.wrap (val.1.1 * IntKind.i64.wrap (nI a1.size + 1))).tdiv 256)) then bif decide (IntKind.i64.wrap ((IntKind.i64.wrap (val.1.1 * IntKind.i64.wrap (nI a1.size + 1))).tdiv 256) < nI a1.size) then ((Ac val_1.2.1 8).bind fun val => some ((val.1, ()), val.2, ())).bind fun val_2 => bif decide (0 ≤ IntKind.u64.wrap val_2.1.1) then bif decide ((Ab a1 0 (IntKind.i64.wrap ((IntKind.i64.wrap (val.1.1 * IntKind.i64.wrap (nI a1.size + 1))).tdiv 256))).size + (strOfNums [IntKind.u8.wrap (IntKind.i64.wrap (nI (BitVec.ofInt 64 (IntKind.i64.wrap (Af a1 (IntKind.i64.wrap ((IntKind.i64.wrap (val.1.1 * IntKind.i64.wrap (nI a1.size + 1))).tdiv 256)))) ^^^ BitVec.ofInt 64 (IntKind.i64.wrap (1 * 2 ^ min (IntKind.u64.wrap val_2.1.1).toNat 64))).toNat))]).size ≤ 9223372036854775807) then bif decide (0 ≤ IntKind.i64.wrap (IntKind.i64.wrap ((IntKind.i64.wrap (val.1.1 * IntKind.i64.wrap (nI a1.size + 1))).tdiv 256) + 1)) then bif decide (IntKind.i64.wrap (IntKind.i64.wrap ((IntKind.i64.wrap (val.1.1 * IntKind.i64.wrap (nI a1.size + 1))).tdiv 256) + 1) ≤ nI a1.size) then bif decide ((Ab a1 0 (IntKind.i64.wrap ((IntKind.i64.wrap (val.1.1 * IntKind.i64.wrap (nI a1.size + 1))).tdiv 256)) ++ strOfNums [IntKind.u8.wrap (IntKind.i64.wrap (nI (BitVec.ofInt 64 (IntKind.i64.wrap (Af a1 (IntKind.i64.wrap ((IntKind.i64.wrap (val.1.1 * IntKind.i64.wrap (nI a1.size + 1))).tdiv 256)))) ^^^ BitVec.ofInt 64 (IntKind.i64.wrap (1 * 2 ^ min (IntKind.u64.wrap val_2.1.1).toNat 64))).toNat))]).size + (Ab a1 (IntKind.i64.wrap (IntKind.i64.wrap ((IntKind.i64.wrap (val.1.1 * IntKind.i64.wrap (nI a1.size + 1))).tdiv 256) + 1)) (nI a1.size)).size ≤ 9223372036854775807) then some ((Ab a1 0 (IntKind.i64.wrap ((IntKind.i64.wrap (val.1.1 * IntKind.i64.wrap (nI a1.size + 1))).tdiv 256)) ++ strOfNums [IntKind.u8.wrap (IntKind.i64.wrap (nI (BitVec.ofInt 64 (IntKind.i64.wrap (Af a1 (IntKind.i64.wrap ((IntKind.i64.wrap (val.1.1 * IntKind.i64.wrap (nI a1.size + 1))).tdiv 256)))) ^^^ BitVec.ofInt 64 (IntKind.i64.wrap (1 * 2 ^ min (IntKind.u64.wrap val_2.1.1).toNat 64))).toNat))] ++ Ab a1 (IntKind.i64.wrap (IntKind.i64.wrap ((IntKind.i64.wrap (val.1.1 * IntKind.i64.wrap (nI a1.size + 1))).tdiv 256) + 1)) (nI a1.size), ()), val_2.2) else none else none else none else none else none else none else none else none else none else bif decide (0 ≤ IntKind.i64.wrap ((IntKind.i64.wrap (val.1.1 * IntKind.i64.wrap (nI a1.size + 1))).tdiv 256)) then bif decide (IntKind.i64.wrap ((IntKind.i64.wrap (val.1.1 * IntKind.i64.wrap (nI a1.size + 1))).tdiv 256) ≤ nI a1.size) then bif decide (a1.size + (Ab a1 (IntKind.i64.wrap ((IntKind.i64.wrap (val.1.1 * IntKind.i64.wrap (nI a1.size + 1))).tdiv 256)) (nI a1.size)).size ≤ 9223372036854775807) then some ((a1 ++ Ab a1 (IntKind.i64.wrap ((IntKind.i64.wrap (val.1.1 * IntKind.i64.wrap (nI a1.size + 1))).tdiv 256)) (nI a1.size), ()), val_1.2) else none else none else none else bif decide (0 ≤ IntKind.i64.wrap ((IntKind.i64.wrap (val.1.1 * IntKind.i64.wrap (nI a1.size + 1))).tdiv 256)) then bif decide (IntKind.i64.wrap ((IntKind.i64.wrap (val.1.1 * IntKind.i64.wrap (nI a1.size + 1))).tdiv 256) ≤ nI a1.size) then bif decide (a1.size + (Ab a1 (IntKind.i64.wrap ((IntKind.i64.wrap (val.1.1 * IntKind.i64.wrap (nI a1.size + 1))).tdiv 256)) (nI a1.size)).size ≤ 9223372036854775807) then some ((a1 ++ Ab a1 (IntKind.i64.wrap ((IntKind.i64.wrap (val.1.1 * IntKind.i64.wrap (nI a1.size + 1))).tdiv 256)) (nI a1.size), ()), val_1.2) else none else none else none
theorem Jx : ∃ f, f = @Eh := ⟨_, rfl⟩
noncomputable def m_spec_l1Bend := Classical.choose Jx
theorem Jy : @m_spec_l1Bend = @Eh := Classical.choose_spec Jx
noncomputable def sd_spec_l1Bend : SD := ⟨Rr, fun x => m_spec_l1Bend x.1 x.2.1⟩
theorem s5 {k : Nat} {r : Rd} {s : ByteArray} (h : Lo k r) (hk : k + 10 < 1099511627776) (hs : s.size ≤ 1000000) : Ar (m_spec_l1Bend r s) fun q => q.1.1.size ≤ 2 * s.size + 8 ∧ Lo (k + 10) q.2.1 := by
 rw [Jy]
 unfold Eh
 refine A4 h (by omega) (by omega) fun v r1 v0 v1 h1 => ?_
 dsimp only
 have hI : 0 ≤ IntKind.i64.wrap ((IntKind.i64.wrap (v * IntKind.i64.wrap (nI s.size + 1))).tdiv 256) ∧ IntKind.i64.wrap ((IntKind.i64.wrap (v * IntKind.i64.wrap (nI s.size + 1))).tdiv 256) ≤ nI s.size := by
  have e1 : IntKind.i64.wrap (nI s.size + 1) = nI s.size + 1 := by simp only [nI]; exact At (by omega) (by omega)
  have m0 : 0 ≤ v * (nI s.size + 1) := Int.mul_nonneg v0 (by simp only [nI]; omega)
  have m1 : v * (nI s.size + 1) ≤ 255 * (nI s.size + 1) := Int.mul_le_mul_of_nonneg_right (by omega) (by simp only [nI]; omega)
  rw [e1, At (n := v * (nI s.size + 1)) (by omega) (by simp only [nI] at *; omega), Int.tdiv_eq_ediv_of_nonneg m0]
  simp only [nI] at *
  rw [At (by omega) (by omega)]
  omega
 generalize IntKind.i64.wrap ((IntKind.i64.wrap (v * IntKind.i64.wrap (nI s.size + 1))).tdiv 256) = I at *
 obtain ⟨i0, i1⟩ := hI
 have d0 : decide (0 ≤ I) = true := decide_eq_true i0
 have d1 : decide (I ≤ nI s.size) = true := decide_eq_true i1
 have c1 := G0 (s := s) (i := 0) (j := I) (by omega) i0 i1
 have c2 := G0 (s := s) i0 i1 (Int.le_refl _)
 have eI : IntKind.i64.wrap (I + 1) = I + 1 := by simp only [nI] at i1; exact At (by omega) (by omega)
 have hn : nI s.size = (s.size : Int) := rfl
 refine A4 h1 (by omega) (by omega) fun w r2 w0 w1 h2 => ?_
 dsimp only
 have dbl : Ar (bif decide (0 ≤ I) then bif decide (I ≤ nI s.size) then bif decide (s.size + (Ab s I (nI s.size)).size ≤ 9223372036854775807) then some ((s ++ Ab s I (nI s.size), ()), (r2, ())) else none else none else none) fun q => q.1.1.size ≤ 2 * s.size + 8 ∧ Lo (k + 10) q.2.1 :=
  Ar.go d0 (Ar.go d1 (Ar.go (decide_eq_true (by omega)) (Ar.some ⟨by show (s ++ Ab s I (nI s.size)).size ≤ _; rw [ByteArray.size_append]; omega, h2.mono (by omega)⟩)))
 refine Ar.cond (fun _ => ?_) fun _ => Ar.cond (fun _ => ?_) fun _ => Ar.cond (fun _ => ?_) fun _ => Ar.cond (fun _ => ?_) fun _ => dbl
 ·exact Ar.go d0 (Ar.go d1 (Ar.some ⟨by show (Ab s 0 I).size ≤ _; omega, h2.mono (by omega)⟩))
 ·refine Ar.go d0 (Ar.go d1 ?_)
  refine A4 h2 (by omega) (by omega) fun u r3 u0 u1 h3 => ?_
  dsimp only
  have hg : ([ByteArray.mk #[32], ByteArray.mk #[10], ByteArray.mk #[0], ByteArray.mk #[1], ByteArray.mk #[48], ByteArray.mk #[120]].getD u.toNat (ByteArray.mk #[])).size ≤ 1 := Uu (Q := fun x : ByteArray => x.size ≤ 1) (by decide) u0 u1
  generalize [ByteArray.mk #[32], ByteArray.mk #[10], ByteArray.mk #[0], ByteArray.mk #[1], ByteArray.mk #[48], ByteArray.mk #[120]].getD u.toNat (ByteArray.mk #[]) = x at *
  refine Ar.go (decide_eq_true u0) (Ar.go (decide_eq_true u1) (Ar.go (decide_eq_true (by omega)) (Ar.go d0 (Ar.go d1 (Ar.go (decide_eq_true (by rw [ByteArray.size_append]; omega)) (Ar.some ⟨?_, h3.mono (by omega)⟩))))))
  show (Ab s 0 I ++ x ++ Ab s I (nI s.size)).size ≤ _
  rw [ByteArray.size_append, ByteArray.size_append]
  omega
 ·refine Ar.cond (fun c => ?_) fun _ => dbl
  have c := of_decide_eq_true c
  have c3 := G0 (s := s) (i := I + 1) (j := nI s.size) (by omega) (by omega) (Int.le_refl _)
  rw [eI]
  refine Ar.go d0 (Ar.go d1 (Ar.go (decide_eq_true (by omega)) (Ar.go (decide_eq_true (by omega)) (Ar.go (decide_eq_true (by omega)) (Ar.some ⟨?_, h2.mono (by omega)⟩)))))
  show (Ab s 0 I ++ Ab s (I + 1) (nI s.size)).size ≤ _
  rw [ByteArray.size_append]
  omega
 ·refine Ar.cond (fun c => ?_) fun _ => dbl
  have c' := of_decide_eq_true c
  have c3 := G0 (s := s) (i := I + 1) (j := nI s.size) (by omega) (by omega) (Int.le_refl _)
  refine Ar.go d0 (Ar.go d1 (Ar.go d0 (Ar.go c ?_)))
  refine A4 h2 (by omega) (by omega) fun u r3 u0 u1 h3 => ?_
  dsimp only
  have eu : IntKind.u64.wrap u = u := by
   show u % 18446744073709551616 = u
   omega
  rw [eu, eI]
  refine Ar.go (decide_eq_true u0) ?_
  generalize IntKind.u8.wrap (IntKind.i64.wrap (nI (BitVec.ofInt 64 (IntKind.i64.wrap (Af s I)) ^^^ BitVec.ofInt 64 (IntKind.i64.wrap (1 * 2 ^ min u.toNat 64))).toNat)) = x
  have sx : (strOfNums [x]).size = 1 := by rw [F7]; rfl
  refine Ar.go (decide_eq_true (by omega)) (Ar.go (decide_eq_true (by omega)) (Ar.go (decide_eq_true (by omega)) (Ar.go (decide_eq_true (by rw [ByteArray.size_append]; omega)) (Ar.some ⟨?_, h3.mono (by omega)⟩))))
  show (Ab s 0 I ++ strOfNums [x] ++ Ab s (I + 1) (nI s.size)).size ≤ _
  rw [ByteArray.size_append, ByteArray.size_append]
  omega
theorem Rs : Ff Try.prog 72 sd_spec_l1Bend :=
 C8 (pat := Jh) [] Q7 (Dg (l := [(64, sd_spec_l1Rd__pick)]) ⟨Br, trivial⟩) trivial Try.func72 (de := fun x => Eh x.1 x.2.1) (fun x r h => by have q : m_spec_l1Bend x.1 x.2.1 = some r := h; rw [Jy] at q; exact q) fun _ => by kernel_rfl
def Ix : Sig := ⟨[.rd (.sl (.int .u8))], [none], [.rd .str], [none]⟩
noncomputable def Cf (a0 : List Int) : Option ((((ByteArray) × Unit) × (Unit))) :=
 (m_spec_l1Open a0).bind fun val => (m_spec_DrawFormBatch a0).bind fun val_1 => ((Ac val.1.1 2).bind fun val => some ((val.1, ()), val.2, ())).bind fun val => bif val.1.1 == 0 then (m_spec_l1Bend val.2.1 (Av val_1.1.1)).bind fun val => some (val.1, ()) else ((Ac val.2.1 12).bind fun val => some ((val.1, ()), val.2, ())).bind fun val => bif val.1.1 == 0 then ((Ac val.2.1 2).bind fun val => some ((val.1, ()), val.2, ())).bind fun val => (m_spec_l1Many (Av [(ByteArray.mk #[107], ByteArray.mk #[], false, ())]) (IntKind.i64.wrap (20 + val.1.1))).bind fun val => some val else some ((Av val_1.1.1, ()), ())
theorem Ev : ∃ f, f = @Cf := ⟨_, rfl⟩
noncomputable def m_spec_DrawReadBatch := Classical.choose Ev
theorem Ew : @m_spec_DrawReadBatch = @Cf := Classical.choose_spec Ev
noncomputable def sd_spec_DrawReadBatch : SD := ⟨Ix, fun x => m_spec_DrawReadBatch x.1⟩
theorem Uw (b : List Int) (h : Ji (.sl (.int .u8)) b) : Ar (m_spec_DrawReadBatch b) fun q => q.1.1.size ≤ 100000 := by
 rw [Ew]
 unfold Cf
 refine Ar.bind (Ym b h) fun q hq => ?_
 refine Ar.bind (Mo b h) fun q2 hq2 => ?_
 have hf := Im q2.1.1
 refine A4 hq (by omega) (by omega) fun v r1 v0 v1 h1 => ?_
 dsimp only
 refine Ar.cond (fun _ => ?_) fun _ => ?_
 ·refine Ar.bind (s5 (s := Av q2.1.1) h1 (by omega) (by show (Bi q2.1.1).size ≤ _; omega)) fun q3 hq3 => Ar.some ?_
  have : (Av q2.1.1).size ≤ 4000 := hf
  show q3.1.1.size ≤ 100000
  omega
 ·refine A4 h1 (by omega) (by omega) fun w r2 w0 w1 h2 => ?_
  dsimp only
  refine Ar.cond (fun _ => ?_) fun _ => Ar.some (by show (Bi q2.1.1).size ≤ _; omega)
  refine A4 h2 (by omega) (by omega) fun u r3 u0 u1 h3 => ?_
  dsimp only
  have eu : IntKind.i64.wrap (20 + u) = 20 + u := At (by omega) (by omega)
  rw [eu]
  have hk : (Av [(ByteArray.mk #[107], ByteArray.mk #[], false, ())]).size ≤ 4000 := Im _
  refine Ar.bind (Pq _ (20 + u) (by omega) (by omega) (by omega)) fun q3 hq3 => Ar.some ?_
  rw [hq3]
  have := Nat.mul_le_mul hk (show (20 + u).toNat ≤ 21 by omega)
  omega
theorem Iy : Ff Try.prog 24 sd_spec_DrawReadBatch :=
 C8 (pat := Jh) [] Q7 (Dg (l := [(18, sd_spec_DrawFormBatch), (20, sd_spec_FormBatch), (62, sd_spec_l1Open), (64, sd_spec_l1Rd__pick), (72, sd_spec_l1Bend), (73, sd_spec_l1Many)]) ⟨Eu, Ef, Jo, Br, Rs, Ga, trivial⟩) trivial Try.func24 (de := fun x => Cf x.1) (fun x r h => by have q : m_spec_DrawReadBatch x.1 = some r := h; rw [Ew] at q; exact q) fun _ => by kernel_rfl
def B8 (s : ByteArray) : ByteArray × ByteArray × Bool := ((Ah s).1, bif (Ah s).2.2 then (Ah s).2.1 else ⟨#[]⟩, (Ah s).2.2)
def Oz : Sig := ⟨[.rd .str], [none], [.rd .str, .rd .str, .rd .bool], [none, none, none]⟩
noncomputable def sd_spec_l4Piece : SD := ⟨Oz, fun x => some (((B8 x.1).1, (B8 x.1).2.1, (B8 x.1).2.2, ()), (()))⟩
noncomputable def Fi (a0 : ByteArray) : Option ((((ByteArray) × (ByteArray) × (Bool) × Unit) × (Unit))) :=
 bif decide (nI a0.size < 1) then some ((ByteArray.mk #[], ByteArray.mk #[], false, ()), ()) else bif decide (0 < nI a0.size) then bif decide (nI a0.size < IntKind.i64.wrap (1 + IntKind.i64.wrap (Af a0 0))) then some ((ByteArray.mk #[], ByteArray.mk #[], false, ()), ()) else bif decide (0 < nI a0.size) then bif decide (1 ≤ IntKind.i64.wrap (1 + IntKind.i64.wrap (Af a0 0))) then bif decide (IntKind.i64.wrap (1 + IntKind.i64.wrap (Af a0 0)) ≤ nI a0.size) then bif decide (0 ≤ IntKind.i64.wrap (1 + IntKind.i64.wrap (Af a0 0))) then bif decide (IntKind.i64.wrap (1 + IntKind.i64.wrap (Af a0 0)) ≤ nI a0.size) then some ((Ab a0 1 (IntKind.i64.wrap (1 + IntKind.i64.wrap (Af a0 0))), Ab a0 (IntKind.i64.wrap (1 + IntKind.i64.wrap (Af a0 0))) (nI a0.size), true, ()), ()) else none else none else none else none else none else none
theorem O0 (a0 : ByteArray) : Fi a0 = some (((B8 a0).1, (B8 a0).2.1, (B8 a0).2.2, ()), (())) := by
 unfold Fi B8 Ah
 obtain ⟨b0, b1⟩ := Hp a0 0
 have hw : IntKind.i64.wrap (1 + IntKind.i64.wrap (Af a0 0)) = 1 + Af a0 0 := by
  rw [At (n := Af a0 0) (by omega) (by omega), At (by omega) (by omega)]
 rw [hw]
 by_cases h0 : (a0.size : Int) < 1
 ·rw [if_pos (Or.inl h0), decide_eq_true (show nI a0.size < 1 from h0)]
  rfl
 ·rw [decide_eq_false (show ¬ nI a0.size < 1 from h0), decide_eq_true (show 0 < nI a0.size by simp only [nI]; omega)]
  by_cases h1 : (a0.size : Int) < 1 + Af a0 0
  ·rw [if_pos (Or.inr h1), decide_eq_true (show nI a0.size < 1 + Af a0 0 from h1)]
   rfl
  ·rw [if_neg (by omega), decide_eq_false (show ¬ nI a0.size < 1 + Af a0 0 from h1), decide_eq_true (show 1 ≤ 1 + Af a0 0 by omega), decide_eq_true (show 0 ≤ 1 + Af a0 0 by omega), decide_eq_true (show 1 + Af a0 0 ≤ nI a0.size by simp only [nI]; omega)]
   rfl
theorem O1 : Ff Try.prog 74 sd_spec_l4Piece :=
 C8 (pat := Jh) [] Q7 (Dg (l := []) trivial) trivial Try.func74 (de := fun x => Fi x.1) (fun x r h => (O0 x.1).trans h) fun _ => by kernel_rfl
def A8 (s : ByteArray) : List Chg × Bool := Q8 s
def Dl (v0 v5 : ByteArray) (r0 : List Chg) : Nat := 22
def My : Sig := ⟨[.rd .str], [none], [.own 90 Bs, .rd .bool], [none, none]⟩
noncomputable def sd_spec_ReadBatch : SD := ⟨My, fun x => some (((A8 x.1).1, (A8 x.1).2, ()), (()))⟩
noncomputable def ta_spec_ReadBatch : Tb := tb [(20, sd_spec_FormBatch), (74, sd_spec_l4Piece)]
def pa_spec_ReadBatch : Nat → Pat × (Nat → Pat) := Ns [(4, ⟨[.row 4 0 90 Bs], [(0, .lf (.d .str)), (4, .lf (.row 0)), (5, .lf (.d .str))], [.row 90 Bs]⟩, [(2, ⟨[.row 4 0 90 Bs], [(0, .lf (.d .str)), (4, .lf (.row 0))], [.row 90 Bs]⟩), (1, ⟨[.row 2 0 90 Bs], [(2, .lf (.row 0)), (3, .lf (.d .bool))], [.row 90 Bs]⟩)])]
noncomputable def co_spec_ReadBatch_4 : Code := (Bg (Dh Try.f25)).getD 0 .skip
noncomputable def Cr {R : Type}  (NX : ((ByteArray) × (ByteArray) × (List Chg) × Unit) → Option R) (X2 : ((ByteArray) × (List Chg) × Unit) → Option R) (X1 : ((Bool) × (List Chg) × Unit) → Option R) (v0 : ByteArray) (v5 : ByteArray) (r0 : List Chg) : Option R :=
 bif decide (nI v5.size > 0) then bif decide (nI r0.length ≤ 20) then bif decide (0 < nI v5.size) then bif decide (1 ≤ nI v5.size) then bif !(Ah (Ab v5 1 (nI v5.size))).2.2 then X1 (false, [], ()) else bif !Af v5 0 == 1 then bif !(Ah (bif (Ah (Ab v5 1 (nI v5.size))).2.2 then (Ah (Ab v5 1 (nI v5.size))).2.1 else ByteArray.mk #[])).2.2 then X1 (false, [], ()) else bif decide ((r0.length + [((Ah (Ab v5 1 (nI v5.size))).1, (Ah (bif (Ah (Ab v5 1 (nI v5.size))).2.2 then (Ah (Ab v5 1 (nI v5.size))).2.1 else ByteArray.mk #[])).1, Af v5 0 == 1, ())].length) * 40 ≤ 140737488355328) then NX (v0, bif (Ah (bif (Ah (Ab v5 1 (nI v5.size))).2.2 then (Ah (Ab v5 1 (nI v5.size))).2.1 else ByteArray.mk #[])).2.2 then (Ah (bif (Ah (Ab v5 1 (nI v5.size))).2.2 then (Ah (Ab v5 1 (nI v5.size))).2.1 else ByteArray.mk #[])).2.1 else ByteArray.mk #[], r0 ++ [((Ah (Ab v5 1 (nI v5.size))).1, (Ah (bif (Ah (Ab v5 1 (nI v5.size))).2.2 then (Ah (Ab v5 1 (nI v5.size))).2.1 else ByteArray.mk #[])).1, Af v5 0 == 1, ())], ()) else none else bif decide ((r0.length + [((Ah (Ab v5 1 (nI v5.size))).1, ByteArray.mk #[], Af v5 0 == 1, ())].length) * 40 ≤ 140737488355328) then NX (v0, bif (Ah (Ab v5 1 (nI v5.size))).2.2 then (Ah (Ab v5 1 (nI v5.size))).2.1 else ByteArray.mk #[], r0 ++ [((Ah (Ab v5 1 (nI v5.size))).1, ByteArray.mk #[], Af v5 0 == 1, ())], ()) else none else none else none else X2 (v0, r0, ()) else X2 (v0, r0, ())
noncomputable def Bl : Nat → (ByteArray) → (ByteArray) → (List Chg) →  Option (((ByteArray) × (List Chg) × Unit) ⊕ ((Bool) × (List Chg) × Unit))
 | 0, _, _, _ => none
 | m + 1, v0, v5, r0 => Cr  (fun d => Bl m d.1 d.2.1 d.2.2.1) (fun d => some (.inl (d))) (fun d => some (.inr (d))) v0 v5 r0
noncomputable def Ei (a0 : ByteArray) : Option ((((List Chg) × (Bool) × Unit) × (Unit))) :=
 ((fun d => Bl (Dl d.1 d.2.1 d.2.2.1) d.1 d.2.1 d.2.2.1) (a0, a0, [], ())).bind fun val => Ip (fun d => bif nI (ByteArray.size d.1) == 0 then some (([], false, ()), ()) else bif !(Av d.2.1).toList == ByteArray.toList d.1 then some (([], false, ()), ()) else some ((d.2.1, true, ()), ())) (fun d => some ((d.2.1, d.1, ()), ())) val
def Abt (s0 : ByteArray) (o : Option (List Chg × ByteArray)) : (ByteArray × List Chg × Unit) ⊕ (Bool × List Chg × Unit) := match o with
 | some (b, t) => .inl (s0, b, ())
 | none => .inr (false, [], ())
theorem Ru (s0 : ByteArray) : ∀ (f m : Nat) (r : List Chg) (s : ByteArray), r.length + f = 22 → f ≤ m → 1 ≤ f → Bl m s0 s r = some (Abt s0 (Dr false f r s))
 | 0, _, _, _, _, _, h => by omega
 | f + 1, 0, _, _, _, h, _ => by omega
 | f + 1, m + 1, r, s, hf, hm, _ => by
  simp only [Bl, Cr, Dr]
  by_cases hs : s.size > 0
  ·rw [decide_eq_true (show nI s.size > 0 by simp only [nI]; omega), decide_eq_true hs]
   by_cases hr : r.length ≤ 20
   ·rw [decide_eq_true (show nI r.length ≤ 20 by simp only [nI]; omega), decide_eq_true hr, decide_eq_true (show 1 ≤ nI s.size by simp only [nI]; omega)]
    unfold Oi
    generalize Ah (Ab s 1 (nI s.size)) = p
    simp only [List.length_singleton, Bool.false_and, cond_true, Bool.and_self, cond_false]
    rw [decide_eq_true (show (r.length + 1) * 40 ≤ 140737488355328 by omega)]
    obtain ⟨k, t, o⟩ := p
    cases o
    ·rfl
    ·by_cases h2 : Af s 0 = 1
     ·rw [h2]
      exact Ru s0 f m (r ++ [(k, ByteArray.mk #[], true, ())]) t (by rw [List.length_append, List.length_singleton]; omega) (by omega) (by omega)
     ·have h3 : (Af s 0 == 1) = false := beq_eq_false_iff_ne.2 h2
      rw [h3]
      simp only [Bool.not_true, Bool.not_false, cond_false, cond_true]
      generalize Ah t = q
      obtain ⟨v, u, o⟩ := q
      cases o
      ·rfl
      ·exact Ru s0 f m (r ++ [(k, v, false, ())]) u (by rw [List.length_append, List.length_singleton]; omega) (by omega) (by omega)
   ·rw [decide_eq_false (show ¬ nI r.length ≤ 20 by simp only [nI]; omega), decide_eq_false hr]
    rfl
  ·rw [decide_eq_false (show ¬ nI s.size > 0 by simp only [nI]; omega), decide_eq_false hs]
   rfl
theorem Mz (a0 : ByteArray) : Ei a0 = some (((A8 a0).1, (A8 a0).2, ()), (())) := by
 unfold Ei A8 Q8
 have hL := Ru a0 22 22 [] a0 rfl (Nat.le_refl _) (by omega)
 refine bi_ hL ?_
 cases Dr false 22 [] a0 with
 | none => rfl
 | some bt =>
  obtain ⟨b, t⟩ := bt
  show (bif nI a0.size == 0 then _ else (bif !(ByteArray.toList (Bi b) == ByteArray.toList a0) then _ else _)) = _
  have e : (nI a0.size == 0) = (a0.size == 0) := by
   by_cases q : a0.size = 0
   ·rw [q]; rfl
   ·rw [beq_eq_false_iff_ne.2 q, beq_eq_false_iff_ne.2 (show nI a0.size ≠ 0 by simp only [nI]; omega)]
  rw [e]
  simp only
  cases (a0.size == 0) <;> cases (ByteArray.toList (Bi b) == ByteArray.toList a0) <;> rfl
noncomputable def Fr {R : Type} (k : Kt R) := (Ip (V3 (pa_spec_ReadBatch 4) (.exit 0) 2 k) (V3 (pa_spec_ReadBatch 4) .ret 1 k))
noncomputable def Hz {R : Type} : Lt R pa_spec_ReadBatch := (Oq (pat := pa_spec_ReadBatch) 4 (fun d k => (Bl (Dl d.1 d.2.1 d.2.2.1) d.1 d.2.1 d.2.2.1).bind (Fr k)) Q7)
theorem G7 : A3 Try.prog ta_spec_ReadBatch := Dg ⟨Ef, O1, trivial⟩
theorem Kj {R : Type} : Cm Try.prog R 70 0 pa_spec_ReadBatch Hz co_spec_ReadBatch_4 :=
 Ir (cfg := ⟨ta_spec_ReadBatch, 0, 70, pa_spec_ReadBatch⟩) 4 [] (fun NX X d => Cr  NX (fun e => X (.inl (e))) (fun e => X (.inr (e))) d.1 d.2.1 d.2.2.1) (fun m d => Bl m d.1 d.2.1 d.2.2.1) (fun d => Dl d.1 d.2.1 d.2.2.1) Fr G7 trivial (fun f NX d => by unfold Cr; simp only [Ch, C1, B1, Option.bind_assoc, Option.bind_none, Option.bind_some]) (fun _ _ _ => by kernel_rfl)
theorem M0 : Ff Try.prog 25 sd_spec_ReadBatch :=
 C8 (pat := pa_spec_ReadBatch) [co_spec_ReadBatch_4] Hz G7 ⟨Kj, trivial⟩ Try.func25 (de := fun x => Ei x.1) (fun x r h => (Mz x.1).trans h) fun _ => by kernel_rfl
def M1 : Sig := ⟨[.rd (.sl (.int .u8))], [none], [.rd .bool], [none]⟩
noncomputable def C3 (a0 : List Int) : Option ((((Bool) × Unit) × (Unit))) :=
 bif decide (nI a0.length > 1048576) then some ((true, ()), ()) else (m_spec_DrawFormBatch a0).bind fun val => bif !(As val.1.1).toList == (Av val.1.1).toList then some ((false, ()), ()) else bif !(!(As val.1.1).toList == (ByteArray.mk #[]).toList) == B0 val.1.1 then some ((false, ()), ()) else bif !(Aj (As val.1.1)).2 == !(As val.1.1).toList == (ByteArray.mk #[]).toList then some ((false, ()), ()) else bif (Aj (As val.1.1)).2 then ((Dn (Aj (As val.1.1)).1 val.1.1).bind fun val => some ((val, ()), ())).bind fun val => bif !val.1.1 then some ((false, ()), ()) else (m_spec_DrawReadBatch a0).bind fun val => bif (Aj val.1.1).2 == (A8 val.1.1).2 then bif !(Aj val.1.1).2 then some ((true, ()), ()) else some (((As (Aj val.1.1).1).toList == ByteArray.toList val.1.1, ()), ()) else some ((false, ()), ()) else (m_spec_DrawReadBatch a0).bind fun val => bif (Aj val.1.1).2 == (A8 val.1.1).2 then bif !(Aj val.1.1).2 then some ((true, ()), ()) else some (((As (Aj val.1.1).1).toList == ByteArray.toList val.1.1, ()), ()) else some ((false, ()), ())
noncomputable def sd_laws_FnBatches : SD := ⟨M1, fun x => C3 x.1⟩
theorem Sa (a0 : List Int) (h0 : Ji (.sl (.int .u8)) a0) : C3 a0 = some ((true, ()), ()) := by
 apply Ar.law
 unfold C3
 refine Ar.cond (fun _ => Ar.some rfl) fun _ => ?_
 refine Ar.bind (Mo a0 h0) fun q hq => ?_
 obtain ⟨⟨b, ⟨⟩⟩, ⟨⟩⟩ := q
 dsimp only at hq ⊢
 have e1 : As b = Bi b := rfl
 have e2 : Av b = Bi b := rfl
 have e3 : B0 b = Am b := rfl
 have e4 : Aj (Bi b) = D6 (Bi b) := rfl
 rw [e1, e2, e3, e4, Zl]
 obtain ⟨r1, r2⟩ := Zm b
 rw [r1]
 have tail : Ar ((m_spec_DrawReadBatch a0).bind fun val => bif (Aj val.1.1).2 == (A8 val.1.1).2 then bif !(Aj val.1.1).2 then some ((true, ()), ()) else some (((As (Aj val.1.1).1).toList == ByteArray.toList val.1.1, ()), ()) else some ((false, ()), ())) fun r : (Bool × Unit) × Unit => r.1.1 = true := by
  refine Ar.bind (Uw a0 h0) fun q hq => ?_
  have e5 : Aj q.1.1 = D6 q.1.1 := rfl
  have e6 : A8 q.1.1 = D6 q.1.1 := Zh _
  rw [e5, e6]
  refine Ar.go (by simp) (Ar.cond (fun _ => Ar.some rfl) fun c => Ar.some ?_)
  show ((Bi (D6 q.1.1).1).toList == q.1.1.toList) = true
  rw [Zk (by simpa using c)]
  exact beq_self_eq_true _
 refine Ar.no (by simp) ?_
 cases hv : Am b with
 | false => exact Ar.no (by rfl) (Ar.no (by rfl) (Ar.no (by rfl) tail))
 | true =>
  rw [r2 hv]
  have ew : Dn b b = some (Zf (fun x y : Chg => Xb Bs x y) b b) := if_pos (Nat.le_trans hq.1 (by decide))
  rw [ew, show Zf (fun x y : Chg => Xb Bs x y) b b = true from Ra (fun x => Mm Bs x) b]
  exact Ar.no (by rfl) (Ar.no (by rfl) (Ar.go (by rfl) tail))
theorem M2 : Ff Try.prog 4 sd_laws_FnBatches :=
 C8 (pat := Jh) [] Q7 (Dg (l := [(18, sd_spec_DrawFormBatch), (19, sd_impl_FormBatch), (20, sd_spec_FormBatch), (21, sd_spec_ValidBatch), (22, sd_impl_ReadBatch), (23, sd_laws_wBatch), (24, sd_spec_DrawReadBatch), (25, sd_spec_ReadBatch)]) ⟨Eu, Ms, Ef, Gk, Mx, Rq, Iy, M0, trivial⟩) trivial Try.func4 (de := fun x => C3 x.1) (fun x r h => h) fun _ => by kernel_rfl
end Go.Proofs.Ytkfoebbjncngjaa.V

