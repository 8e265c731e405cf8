/- What the functions that FnLog reaches come to: part 1. No condition. -/
import Derived.Test.YtkfoebbjncngjaaQBase
import Derived.Test.YtkfoebbjncngjaaTLay
import Derived.Test.YtkfoebbjncngjaaProg
import Derived.Test.YtkfoebbjncngjaaQS
import Derived.Test.YtkfoebbjncngjaaQD
import Derived.Test.YtkfoebbjncngjaaQL
import Derived.KernelRfl
namespace Go.Proofs.Ytkfoebbjncngjaa.V
open Go Go.Proofs.Ytkfoebbjncngjaa.R Go.Proofs
set_option maxRecDepth 100000
set_option linter.unusedVariables false
set_option linter.unusedSimpArgs false
def Rx (v n : Int) : Option ByteArray := if 0 ≤ n ∧ n ≤ 1000 then some (Ch v n.toNat) else none
def Gd (v0 v6 : Int) (r0 : List Int) : Nat := v6.toNat + 2
def Aba : Sig := ⟨[.rd tI, .rd tI], [none, none], [.rd .str], [none]⟩
noncomputable def sd_impl_be : SD := ⟨Aba, fun x => (Rx x.1 x.2.1).bind fun r => some ((r, ()), (()))⟩
noncomputable def ta_impl_be : Tb := tb []
def pa_impl_be : Nat → Pat × (Nat → Pat) := I4 [(4, ⟨[.row 5 0 5 (.int .u8)], [(0, .lf (.d tI)), (5, .lf (.row 0)), (6, .lf (.d tI))], [.row 5 (.int .u8)]⟩, [(2, ⟨[.row 5 0 5 (.int .u8)], [(5, .lf (.row 0))], [.row 5 (.int .u8)]⟩)])]
noncomputable def co_impl_be_4 : Code := (Aw (Cf Try.f68)).getD 0 .skip
noncomputable def Ge {R : Type}  (NX : ((Int) × (Int) × (List Int) × Unit) → Option R) (X2 : ((List Int) × Unit) → Option R) (v0 : Int) (v6 : Int) (r0 : List Int) : Option R :=
 bif decide (v6 ≥ 0) then bif decide (0 ≤ v6) then bif decide (v6 < nI r0.length) then bif decide (v6.toNat < r0.length) then NX (v0.fdiv (2 ^ min (Int.toNat 8) 64), IntKind.i64.wrap (v6 - 1), r0.set v6.toNat (IntKind.u8.wrap v0), ()) else none else none else none else X2 (r0, ())
noncomputable def D9 : Nat → (Int) → (Int) → (List Int) →  Option ((List Int) × Unit)
 | 0, _, _, _ => none
 | m + 1, v0, v6, r0 => Ge  (fun d => D9 m d.1 d.2.1 d.2.2.1) (fun d => some (d)) v0 v6 r0
noncomputable def O1 (a0 : Int) (a1 : Int) : Option ((((ByteArray) × Unit) × (Unit))) :=
 bif decide (a1 = a1) then bif decide (0 ≤ a1) then bif decide (a1.toNat * 1 ≤ 140737488355328) then ((fun d => D9 (Gd d.1 d.2.1 d.2.2.1) d.1 d.2.1 d.2.2.1) (a0, IntKind.i64.wrap (a1 - 1), List.replicate a1.toNat 0, ())).bind fun val => some ((strOfNums val.1, ()), ()) else none else none else none
theorem Acj : ∀ (k m : Nat) (v : Int) (l t : List Int), l.length = k → k ≤ 1000 → k < m → D9 m v ((k : Int) - 1) (l ++ t) = some (G0 v k ++ t, ())
 | 0, m + 1, v, l, t, hl, hk, hm => by
  obtain rfl : l = [] := List.length_eq_zero_iff.1 hl
  simp only [D9, Ge]
  rw [decide_eq_false (by omega)]
  rfl
 | k + 1, m + 1, v, l, t, hl, hk, hm => by
  have e : (((k + 1 : Nat) : Int) - 1) = (k : Int) := by omega
  rw [e]
  simp only [D9, Ge]
  have hlen : (l ++ t).length = k + 1 + t.length := by rw [List.length_append, hl]
  rw [decide_eq_true (show (k : Int) ≥ 0 by omega), decide_eq_true (show (k : Int) < nI (l ++ t).length by simp only [nI, hlen]; omega), decide_eq_true (show Int.toNat (k : Int) < (l ++ t).length by rw [hlen]; omega), Ac (by omega) (by omega)]
  simp only [cond_true, Int.toNat_natCast]
  obtain ⟨l', x, rfl⟩ : ∃ l' x, l = l' ++ [x] := ⟨l.dropLast, l.getLast (by intro h; subst h; simp at hl), (List.dropLast_concat_getLast _).symm⟩
  have hl' : l'.length = k := by simpa using hl
  have hs : ((l' ++ [x]) ++ t).set k (IntKind.wrap IntKind.u8 v) = l' ++ (v % 256 :: t) := by
   rw [List.append_assoc, List.set_append_right _ _ (by omega), hl']
   simp only [Nat.sub_self, List.singleton_append, List.set_cons_zero]
   rfl
  rw [hs]
  have := Acj k m (v / 256) l' (v % 256 :: t) hl' (by omega) (by omega)
  have e2 : Int.fdiv v (2 ^ min (Int.toNat 8) 64) = v / 256 := by
   show Int.fdiv v 256 = v / 256
   exact Int.fdiv_eq_ediv_of_nonneg _ (by omega)
  rw [e2, this]
  simp only [G0, List.append_assoc, List.singleton_append]
theorem Abb (a0 : Int) (a1 : Int) r (h : Rx a0 a1 = some r) : O1 a0 a1 = some ((r, ()), (())) := by
 unfold Rx at h
 split at h
 ·rename_i hc
  cases h
  obtain ⟨n, rfl⟩ : ∃ n : Nat, a1 = (n : Int) := ⟨a1.toNat, by omega⟩
  unfold O1
  rw [decide_eq_true rfl, decide_eq_true hc.1, decide_eq_true (show Int.toNat (n : Int) * 1 ≤ 140737488355328 by omega), Ac (by omega) (by omega)]
  have hL := Acj n (Gd a0 ((n : Int) - 1) (List.replicate n 0)) a0 (List.replicate n 0) [] (by simp) (by omega) (by simp only [Gd]; omega)
  rw [List.append_nil, List.append_nil] at hL
  exact Sz hL rfl
 ·cases h
noncomputable def Ql {R : Type} (k : Kt R) := (Ph (pa_impl_be 4) (.exit 0) 2 k)
noncomputable def Yz {R : Type} : Lt R pa_impl_be := (Ho (pat := pa_impl_be) 4 (fun d k => (D9 (Gd d.1 d.2.1 d.2.2.1) d.1 d.2.1 d.2.2.1).bind (Ql k)) Lk)
theorem V5 : Az Try.prog ta_impl_be := B8 trivial
theorem Z8 {R : Type} : Bg Try.prog R 24 0 pa_impl_be Yz co_impl_be_4 :=
 Ed (cfg := ⟨ta_impl_be, 0, 24, pa_impl_be⟩) 4 [] (fun NX X d => Ge  NX X d.1 d.2.1 d.2.2.1) (fun m d => D9 m d.1 d.2.1 d.2.2.1) (fun d => Gd d.1 d.2.1 d.2.2.1) Ql V5 trivial (fun f NX d => by unfold Ge; simp only [Ay, Ba, Ar, Option.bind_assoc, Option.bind_none, Option.bind_some]) (fun _ _ _ => by kernel_rfl)
theorem V6 : D4 Try.prog 68 sd_impl_be :=
 B9 (pat := pa_impl_be) [co_impl_be_4] Yz V5 ⟨Z8, trivial⟩ Try.func68 (de := fun x => O1 x.1 x.2.1) (fun x r h => D6 (Abb x.1 x.2.1) h) fun _ => by kernel_rfl
def Bp (v lo hi : Int) : Bool := Cb v lo hi
def Abc : Sig := ⟨[.rd tI, .rd tI, .rd tI], [none, none, none], [.rd .bool], [none]⟩
noncomputable def sd_impl_in : SD := ⟨Abc, fun x => some (((Bp x.1 x.2.1 x.2.2.1), ()), (()))⟩
noncomputable def O2 (a0 : Int) (a1 : Int) (a2 : Int) : Option ((((Bool) × Unit) × (Unit))) :=
 bif decide (a0 ≥ a1) then some ((decide (a0 ≤ a2), ()), ()) else some ((false, ()), ())
theorem Abd (a0 a1 a2 : Int) : O2 a0 a1 a2 = some ((Bp a0 a1 a2, ()), ()) := by
 unfold O2 Bp Cb
 by_cases h : a0 ≥ a1
 ·have : decide (a1 ≤ a0) = true := by simpa using h
  simp [h, this]
 ·have : decide (a1 ≤ a0) = false := by simpa using h
  simp [h, this]
theorem Ea : D4 Try.prog 83 sd_impl_in :=
 B9 (pat := Hj) [] Lk (B8 (l := []) trivial) trivial Try.func83 (de := fun x => O2 x.1 x.2.1 x.2.2.1) (fun x r h => (Abd x.1 x.2.1 x.2.2.1).trans h) fun _ => by kernel_rfl
def G5 (s : ByteArray) (w : Int) : Option ByteArray := if s.size < 4611686018427387904 then some (Qf s w) else none
def Fc (v0 : ByteArray) (v1 v5 v6 : Int) : Nat := (nI v0.size - v6).toNat + 1
def q9 : Sig := ⟨[.rd .str, .rd tI], [none, none], [.rd .str], [none]⟩
noncomputable def sd_impl_Sum : SD := ⟨q9, fun x => (G5 x.1 x.2.1).bind fun r => some ((r, ()), (()))⟩
noncomputable def ta_impl_Sum : Tb := tb [(68, sd_impl_be), (83, sd_impl_in)]
def pa_impl_Sum : Nat → Pat × (Nat → Pat) := I4 [(6, ⟨[], [(0, .lf (.d .str)), (1, .lf (.d tI)), (5, .lf (.d (.int .u64))), (6, .lf (.d tI))], []⟩, [(2, ⟨[], [(1, .lf (.d tI)), (5, .lf (.d (.int .u64)))], []⟩)])]
noncomputable def co_impl_Sum_6 : Code := (Aw (Cf Try.f30)).getD 0 .skip
noncomputable def Fd {R : Type}  (NX : ((ByteArray) × (Int) × (Int) × (Int) × Unit) → Option R) (X2 : ((Int) × (Int) × Unit) → Option R) (v0 : ByteArray) (v1 : Int) (v5 : Int) (v6 : Int) : Option R :=
 bif decide (v6 < nI v0.size) then bif decide (0 ≤ v6) then bif decide (v6 < nI v0.size) then NX (v0, v1, IntKind.u64.wrap (IntKind.u64.wrap (nI (BitVec.ofInt 64 v5 ^^^ BitVec.ofInt 64 (IntKind.u64.wrap (Av v0 v6))).toNat) * 1099511628211), IntKind.i64.wrap (v6 + 1), ()) else none else none else X2 (v1, v5, ())
noncomputable def Ci : Nat → (ByteArray) → (Int) → (Int) → (Int) →  Option ((Int) × (Int) × Unit)
 | 0, _, _, _, _ => none
 | m + 1, v0, v1, v5, v6 => Fd  (fun d => Ci m d.1 d.2.1 d.2.2.1 d.2.2.2.1) (fun d => some (d)) v0 v1 v5 v6
noncomputable def Mq (a0 : ByteArray) (a1 : Int) : Option ((((ByteArray) × Unit) × (Unit))) :=
 bif !Bp a1 1 8 then some ((ByteArray.mk #[], ()), ()) else ((fun d => Ci (Fc d.1 d.2.1 d.2.2.1 d.2.2.2.1) d.1 d.2.1 d.2.2.1 d.2.2.2.1) (a0, a1, 14695981039346656037, 0, ())).bind fun val => bif decide (0 ≤ IntKind.i64.wrap (8 - val.1)) then bif decide (IntKind.i64.wrap (8 - val.1) ≤ nI (Ch (IntKind.i64.wrap val.2.1) (Int.toNat 8)).size) then some ((Ad (Ch (IntKind.i64.wrap val.2.1) (Int.toNat 8)) (IntKind.i64.wrap (8 - val.1)) (nI (Ch (IntKind.i64.wrap val.2.1) (Int.toNat 8)).size), ()), ()) else none else none
theorem s5 (a0 : ByteArray) (a1 : Int) r (h : G5 a0 a1 = some r) : Mq a0 a1 = some ((r, ()), (())) := by
 unfold G5 at h
 split at h
 rotate_left
 ·cases h
 rename_i hsz
 cases h
 unfold Mq Qf
 generalize hC : (14695981039346656037 : Int) = C
 have h0 : U64 C := by rw [← hC]; exact ⟨by decide, by decide⟩
 show (bif !Cb a1 1 8 then _ else _) = _
 cases hw : Cb a1 1 8 with
 | false => rfl
 | true =>
  have k1 := of_decide_eq_true (Dw hw).1
  have k2 := of_decide_eq_true (Dw hw).2
  ·simp only [Bool.not_true, cond_false, cond_true]
   have hL := Qi a0.size (fun _ _ => True) (fun i h => Mm h (Av a0 i)) (g := fun m i h => Ci m a0 a1 h i) (ok := fun h => (a1, h, ())) (fun m i h hi _ => by
    show Ci (m + 1) a0 a1 h i = _
    simp only [Ci, Fd]
    have c1 : (i : Int) < nI a0.size := by simp only [nI]; omega
    rw [decide_eq_true c1, Rr, wI (show i < 4611686018427387904 by omega)]
    rfl) (fun m h _ => by
    show Ci (m + 1) a0 a1 h a0.size = _
    simp only [Ci, Fd]
    rw [decide_eq_false (show ¬ ((a0.size : Int) < nI a0.size) by simp only [nI]; omega)]
    rfl) (fun _ _ _ _ => trivial) a0.size (Fc a0 a1 C 0) 0 C (by omega) (by simp only [Fc, nI]; omega) trivial
   rw [show ((0 : Nat) : Int) = 0 from rfl] at hL
   refine Sz hL ?_
   have e1 : IntKind.i64.wrap (8 - a1) = 8 - a1 := Ac (by omega) (by omega)
   have hh := Ace a0 a0.size 0 h0
   have eH : iter (fun i h => Mm h (Av a0 i)) a0.size 0 C = Rp a0 a0.size 0 C := rfl
   rw [eH]
   generalize Rp a0 a0.size 0 C = H at hh ⊢
   show (bif decide (0 ≤ IntKind.i64.wrap (8 - a1)) then (bif decide (IntKind.i64.wrap (8 - a1) ≤ nI (ByteArray.size (Ch (IntKind.i64.wrap H) (Int.toNat 8)))) then some ((Ad (Ch (IntKind.i64.wrap H) (Int.toNat 8)) (IntKind.i64.wrap (8 - a1)) (nI (ByteArray.size (Ch (IntKind.i64.wrap H) (Int.toNat 8)))), ()), ()) else none) else none) = some ((Ch H a1.toNat, ()), ())
   rw [e1, Agw hh k1 k2, decide_eq_true (show 0 ≤ 8 - a1 by omega), decide_eq_true (show 8 - a1 ≤ nI (ByteArray.size (Ch (IntKind.i64.wrap H) (Int.toNat 8))) by rw [Fb]; simp [nI]; omega)]
   rfl
noncomputable def N3 {R : Type} (k : Kt R) := (Ph (pa_impl_Sum 6) (.exit 0) 2 k)
noncomputable def V7 {R : Type} : Lt R pa_impl_Sum := (Ho (pat := pa_impl_Sum) 6 (fun d k => (Ci (Fc d.1 d.2.1 d.2.2.1 d.2.2.2.1) d.1 d.2.1 d.2.2.1 d.2.2.2.1).bind (N3 k)) Lk)
theorem S2 : Az Try.prog ta_impl_Sum := B8 ⟨V6, Ea, trivial⟩
theorem W8 {R : Type} : Bg Try.prog R 29 0 pa_impl_Sum V7 co_impl_Sum_6 :=
 Ed (cfg := ⟨ta_impl_Sum, 0, 29, pa_impl_Sum⟩) 6 [] (fun NX X d => Fd  NX X d.1 d.2.1 d.2.2.1 d.2.2.2.1) (fun m d => Ci m d.1 d.2.1 d.2.2.1 d.2.2.2.1) (fun d => Fc d.1 d.2.1 d.2.2.1 d.2.2.2.1) N3 S2 trivial (fun f NX d => by unfold Fd; simp only [Ay, Ba, Ar, Option.bind_assoc, Option.bind_none, Option.bind_some]) (fun _ _ _ => by kernel_rfl)
theorem s6 : D4 Try.prog 30 sd_impl_Sum :=
 B9 (pat := pa_impl_Sum) [co_impl_Sum_6] V7 S2 ⟨W8, trivial⟩ Try.func30 (de := fun x => Mq x.1 x.2.1) (fun x r h => D6 (s5 x.1 x.2.1) h) fun _ => by kernel_rfl
def Z9 : Sig := ⟨[.rd tI], [none], [.rd tI], [none]⟩
noncomputable def Qm (a0 : Int) : Option ((((Int) × Unit) × (Unit))) :=
 some ((IntKind.i64.wrap (IntKind.i64.wrap (64 - a0) - 8), ()), ())
noncomputable def sd_impl_room : SD := ⟨Z9, fun x => Qm x.1⟩
theorem H4 : D4 Try.prog 84 sd_impl_room :=
 B9 (pat := Hj) [] Lk (B8 (l := []) trivial) trivial Try.func84 (de := fun x => Qm x.1) (fun x r h => h) fun _ => by kernel_rfl
def E2 (p : Pg) (w : Int) : Bool := Bk p w
def Qn : Sig := ⟨[.rd yPg, .rd tI], [some 4, none], [.rd .bool], [none]⟩
noncomputable def sd_impl_validPage : SD := ⟨Qn, fun x => some (((E2 x.1 x.2.1), ()), (()))⟩
noncomputable def Gf (a0 : Pg) (a1 : Int) : Option ((((Bool) × Unit) × (Unit))) :=
 bif Bp a1 1 8 then bif Bp a0.1 1 4 then bif Bp a0.2.1 1 60000 then bif Bp a0.2.2.1 1 1000000000 then bif decide (nI (ByteArray.size a0.2.2.2.1) ≤ IntKind.i64.wrap (IntKind.i64.wrap (64 - a1) - 8)) then bif a0.1 != 3 then some ((true, ()), ()) else some ((ByteArray.toList a0.2.2.2.1 == (ByteArray.mk #[]).toList, ()), ()) else some ((false, ()), ()) else some ((false, ()), ()) else some ((false, ()), ()) else some ((false, ()), ()) else some ((false, ()), ())
theorem Qo (a0 : Pg) (a1 : Int) : Gf a0 a1 = some (((E2 a0 a1), ()), (())) := by
 unfold Gf E2 Bk
 have tl : ByteArray.toList (ByteArray.mk #[]) = [] := by decide +kernel
 rw [tl]
 show (bif Cb a1 1 8 then (bif Cb a0.1 1 4 then (bif Cb a0.2.1 1 60000 then (bif Cb a0.2.2.1 1 1000000000 then _ else _) else _) else _) else _) = _
 cases hw : Cb a1 1 8 with
 | false => rfl
 | true =>
  have k1 := of_decide_eq_true (Dw hw).1
  have k2 := of_decide_eq_true (Dw hw).2
  rw [Ac (n := 64 - a1) (by omega) (by omega), Ac (by omega) (by omega), show 64 - a1 - 8 = 56 - a1 by omega]
  cases Cb a0.1 1 4 <;> cases Cb a0.2.1 1 60000 <;> cases Cb a0.2.2.1 1 1000000000 <;> try rfl
  show (bif decide ((ByteArray.size a0.2.2.2.1 : Int) ≤ 56 - a1) then _ else _) = _
  cases decide ((ByteArray.size a0.2.2.2.1 : Int) ≤ 56 - a1) <;> cases (a0.1 != 3) <;> rfl
theorem Qp : D4 Try.prog 78 sd_impl_validPage :=
 B9 (pat := Hj) [] Lk (B8 (l := [(83, sd_impl_in), (84, sd_impl_room)]) ⟨Ea, H4, trivial⟩) trivial Try.func78 (de := fun x => Gf x.1 x.2.1) (fun x r h => (Qo x.1 x.2.1).trans h) fun _ => by kernel_rfl
def Qq : Sig := ⟨[.rd .str, .rd (.int .i64)], [none, none], [.rd .str], [none]⟩
noncomputable def Ej : SD := ⟨Qq, fun x => (Ju x.1 x.2.1).bind fun r => some ((r, ()), ())⟩
theorem Jh : Ec Try.prog 79 ∧ L4 Try.prog 79 Ej.sg Ej.den := ⟨⟨_, Try.func79, by kernel_rfl, by kernel_rfl⟩, Afd⟩
def Bv (p : Pg) (w : Int) : ByteArray := A8 p w
def Ry : Sig := ⟨[.rd yPg, .rd tI], [some 4, none], [.rd .str], [none]⟩
noncomputable def sd_impl_FormPage : SD := ⟨Ry, fun x => some (((Bv x.1 x.2.1), ()), (()))⟩
noncomputable def G6 (a0 : Pg) (a1 : Int) : Option ((((ByteArray) × Unit) × (Unit))) :=
 bif !E2 a0 a1 then some ((ByteArray.mk #[], ()), ()) else bif decide ((Ch a0.1 (Int.toNat 1) ++ Ch a0.2.1 (Int.toNat 2) ++ Ch a0.2.2.1 (Int.toNat 4) ++ Ch (nI (ByteArray.size a0.2.2.2.1)) (Int.toNat 1)).size + ByteArray.size a0.2.2.2.1 ≤ 9223372036854775807) then ((Ju (ByteArray.mk #[0]) (IntKind.i64.wrap (IntKind.i64.wrap (64 - a1) - nI (Ch a0.1 (Int.toNat 1) ++ Ch a0.2.1 (Int.toNat 2) ++ Ch a0.2.2.1 (Int.toNat 4) ++ Ch (nI (ByteArray.size a0.2.2.2.1)) (Int.toNat 1) ++ a0.2.2.2.1).size))).bind fun val => some ((val, ()), ())).bind fun val => bif decide ((Ch a0.1 (Int.toNat 1) ++ Ch a0.2.1 (Int.toNat 2) ++ Ch a0.2.2.1 (Int.toNat 4) ++ Ch (nI (ByteArray.size a0.2.2.2.1)) (Int.toNat 1) ++ a0.2.2.2.1).size + ByteArray.size val.1.1 ≤ 9223372036854775807) then ((G5 (Ch a0.1 (Int.toNat 1) ++ Ch a0.2.1 (Int.toNat 2) ++ Ch a0.2.2.1 (Int.toNat 4) ++ Ch (nI (ByteArray.size a0.2.2.2.1)) (Int.toNat 1) ++ a0.2.2.2.1 ++ val.1.1) a1).bind fun val => some ((val, ()), ())).bind fun val_1 => bif decide (ByteArray.size val_1.1.1 + (Ch a0.1 (Int.toNat 1) ++ Ch a0.2.1 (Int.toNat 2) ++ Ch a0.2.2.1 (Int.toNat 4) ++ Ch (nI (ByteArray.size a0.2.2.2.1)) (Int.toNat 1) ++ a0.2.2.2.1 ++ val.1.1).size ≤ 9223372036854775807) then some ((val_1.1.1 ++ (Ch a0.1 (Int.toNat 1) ++ Ch a0.2.1 (Int.toNat 2) ++ Ch a0.2.2.1 (Int.toNat 4) ++ Ch (nI (ByteArray.size a0.2.2.2.1)) (Int.toNat 1) ++ a0.2.2.2.1 ++ val.1.1), ()), ()) else none else none else none
theorem Rz (a0 : Pg) (a1 : Int) : G6 a0 a1 = some (((Bv a0 a1), ()), (())) := by
 unfold G6 Bv A8
 show (bif !Bk a0 a1 then _ else _) = _
 cases hp : Bk a0 a1 with
 | false => rfl
 | true =>
  obtain ⟨hw, k1, k2, kp⟩ := Ik hp
  simp only [Bool.not_true, cond_false, cond_true]
  have hb : Cr a0 a1 = Ch a0.1 1 ++ Ch a0.2.1 2 ++ Ch a0.2.2.1 4 ++ Ch (nI a0.2.2.2.1.size) 1 ++ a0.2.2.2.1 ++ strOfNums (List.replicate (56 - a1 - a0.2.2.2.1.size).toNat 0) := rfl
  have hs4 : (Ch a0.1 1 ++ Ch a0.2.1 2 ++ Ch a0.2.2.1 4 ++ Ch (nI a0.2.2.2.1.size) 1).size = 8 := by simp only [ByteArray.size_append, Fb]
  have hs5 : (Ch a0.1 1 ++ Ch a0.2.1 2 ++ Ch a0.2.2.1 4 ++ Ch (nI a0.2.2.2.1.size) 1 ++ a0.2.2.2.1).size = 8 + a0.2.2.2.1.size := by rw [ByteArray.size_append, hs4]
  show (bif decide ((Ch a0.1 1 ++ Ch a0.2.1 2 ++ Ch a0.2.2.1 4 ++ Ch (nI a0.2.2.2.1.size) 1).size + a0.2.2.2.1.size ≤ 9223372036854775807) then Option.bind (Option.bind (Ju (ByteArray.mk #[0]) (IntKind.i64.wrap (IntKind.i64.wrap (64 - a1) - nI (Ch a0.1 1 ++ Ch a0.2.1 2 ++ Ch a0.2.2.1 4 ++ Ch (nI a0.2.2.2.1.size) 1 ++ a0.2.2.2.1).size))) _) _ else none) = _
  generalize hB : Ch a0.1 1 ++ Ch a0.2.1 2 ++ Ch a0.2.2.1 4 ++ Ch (nI a0.2.2.2.1.size) 1 ++ a0.2.2.2.1 = B at *
  rw [hs4, decide_eq_true (by omega), Ac (n := 64 - a1) (by omega) (by omega), hs5, Ac (by simp only [nI]; omega) (by simp only [nI]; omega)]
  have hr : Ju (ByteArray.mk #[0]) (64 - a1 - nI (8 + a0.2.2.2.1.size)) = some (strOfNums (List.replicate (56 - a1 - a0.2.2.2.1.size).toNat 0)) := by
   have := Aji (56 - a1 - a0.2.2.2.1.size).toNat (by omega)
   rw [show ((56 - a1 - a0.2.2.2.1.size).toNat : Int) = 64 - a1 - nI (8 + a0.2.2.2.1.size) by simp only [nI]; omega] at this
   exact this
  have hz : (strOfNums (List.replicate (56 - a1 - a0.2.2.2.1.size).toNat 0)).size = (56 - a1 - a0.2.2.2.1.size).toNat := by rw [B1, List.length_replicate]
  generalize strOfNums (List.replicate (56 - a1 - a0.2.2.2.1.size).toNat 0) = Z at *
  refine Sz (Sz hr rfl) ?_
  have hbs : (Cr a0 a1).size ≤ 64 := by rw [hb, ByteArray.size_append, hs5, hz]; omega
  dsimp only
  have hB' : Ch a0.1 (Int.toNat 1) ++ Ch a0.2.1 (Int.toNat 2) ++ Ch a0.2.2.1 (Int.toNat 4) ++ Ch (nI a0.2.2.2.1.size) (Int.toNat 1) ++ a0.2.2.2.1 = B := hB
  rw [hB']
  show (bif decide (ByteArray.size B + ByteArray.size Z ≤ 9223372036854775807) then Option.bind (Option.bind (G5 (B ++ Z) a1) _) _ else none) = _
  have hm : G5 (B ++ Z) a1 = some (Qf (Cr a0 a1) a1) := by
   rw [← hb]
   exact if_pos (by omega)
  rw [hs5, hz, decide_eq_true (by omega)]
  refine Sz (Sz hm rfl) ?_
  show (bif decide (ByteArray.size (Qf (Cr a0 a1) a1) + ByteArray.size (B ++ Z) ≤ 9223372036854775807) then some ((Qf (Cr a0 a1) a1 ++ (B ++ Z), ()), ()) else none) = _
  rw [← hb, Kb hw, decide_eq_true (by omega)]
  rfl
theorem G7 : D4 Try.prog 27 sd_impl_FormPage :=
 B9 (pat := Hj) [] Lk (B8 (l := [(30, sd_impl_Sum), (68, sd_impl_be), (78, sd_impl_validPage), (79, Ej)]) ⟨s6, V6, Qp, Jh, trivial⟩) trivial Try.func27 (de := fun x => G6 x.1 x.2.1) (fun x r h => (Rz x.1 x.2.1).trans h) fun _ => by kernel_rfl
def V8 : Sig := ⟨[.rd (.sl (.int .u8))], [none], [.bx 154 (.pair (.sl (.int .u8)) (.pair tI .unit))], [none]⟩
noncomputable def Gg (a0 : List Int) : Option (((((List Int) × Int × Unit) × Unit) × (Unit))) :=
 bif decide (nI a0.length > 2000) then bif decide (2000 ≤ nI a0.length) then some (((List.drop (Int.toNat 0) (List.take (Int.toNat 2000) a0), 0, ()), ()), ()) else none else some (((a0, 0, ()), ()), ())
theorem Mr : ∃ f, f = @Gg := ⟨_, rfl⟩
noncomputable def m_spec_l1Open := Classical.choose Mr
theorem Ms : @m_spec_l1Open = @Gg := Classical.choose_spec Mr
noncomputable def sd_spec_l1Open : SD := ⟨V8, fun x => m_spec_l1Open x.1⟩
theorem Ag5 (b : List Int) (h : N0 (.sl (.int .u8)) b) : As (m_spec_l1Open b) fun r => Rw 0 r.1.1 := by
 obtain ⟨_, h⟩ := h
 have hb : ∀ l : List Int, (∀ x ∈ l, x ∈ b) → l.length ≤ 2000 → rdB l = true := fun l h1 h2 => by
  unfold rdB
  rw [decide_eq_true h2, Bool.true_and, List.all_eq_true]
  intro x hx
  obtain ⟨i, hi, e⟩ := List.getElem_of_mem (h1 x hx)
  have q := h i x (by rw [← e]; exact List.getElem?_eq_getElem hi)
  have q : (Lit.int .u8 x).wf = true := q
  simp only [Lit.wf, Bool.and_eq_true, decide_eq_true_eq] at q
  simp only [Bool.and_eq_true, decide_eq_true_eq]
  have q1 : (0 : Int) ≤ x := q.1
  have q2 : x ≤ 255 := q.2
  omega
 rw [Ms]
 unfold Gg
 refine As.cond (fun c => ?_) fun c => ?_
 ·simp only [decide_eq_true_eq, nI] at c
  refine As.go (decide_eq_true (by simp only [nI]; omega)) (As.some ⟨hb _ (fun x hx => List.mem_of_mem_take (List.mem_of_mem_drop hx)) ?_, Int.le_refl 0, Int.le_refl 0⟩)
  simp only [List.drop_zero, List.length_take, Int.toNat_zero]
  omega
 ·simp only [decide_eq_false_iff_not, nI] at c
  exact As.some ⟨hb _ (fun x hx => hx) (by show b.length ≤ 2000; omega), Int.le_refl 0, Int.le_refl 0⟩
theorem V9 : D4 Try.prog 62 sd_spec_l1Open :=
 B9 (pat := Hj) [] Lk (B8 (l := []) trivial) trivial Try.func62 (de := fun x => Gg x.1) (fun x r h => by have q : m_spec_l1Open x.1 = some r := h; rw [Ms] at q; exact q) fun _ => by kernel_rfl
def Qr (b : List Int) (p : Int) : Int := IntKind.i64.wrap (IntKind.i64.wrap (IntKind.i64.wrap (IntKind.i64.wrap (IntKind.i64.wrap (b.getD (p.tmod (nI b.length)).toNat 0) * 131) + IntKind.i64.wrap (IntKind.i64.wrap (b.getD ((IntKind.i64.wrap (IntKind.i64.wrap (p * 7) + 3)).tmod (nI b.length)).toNat 0) * 1117)) + IntKind.i64.wrap (p * 29)) + IntKind.i64.wrap (IntKind.i64.wrap (p.tdiv (nI b.length)) * 53))
def Wa (b : List Int) (p n : Int) : Int := bif decide (n < 1) then 0 else bif nI b.length == 0 then 0 else bif decide (p < nI b.length) then (IntKind.i64.wrap (b.getD p.toNat 0)).tmod n else
 (IntKind.i64.wrap (nI (BitVec.ofInt 64 (Qr b p) ^^^ BitVec.ofInt 64 (IntKind.i64.wrap ((Qr b p).tdiv 64))).toNat)).tmod n
theorem Ack : ∃ f : Rd → Int → Option (Int × Rd), f = fun r n => if rdB r.1 = true ∧ 0 ≤ r.2.1 ∧ r.2.1 < 1099511627776 then some (Wa r.1 r.2.1 n, (r.1, r.2.1 + 1, ())) else none := ⟨_, rfl⟩
noncomputable def Ab (r : Rd) (n : Int) : Option (Int × Rd) := Classical.choose Ack r n
theorem Acl (r : Rd) (n : Int) : Ab r n = if rdB r.1 = true ∧ 0 ≤ r.2.1 ∧ r.2.1 < 1099511627776 then some (Wa r.1 r.2.1 n, (r.1, r.2.1 + 1, ())) else none := by
 unfold Ab
 rw [Classical.choose_spec Ack]
def O3 : Sig := ⟨[.bx 154 (.pair (.sl (.int .u8)) (.pair tI .unit)), .rd tI], [none, none], [.rd tI], [none]⟩
noncomputable def sd_spec_l1Rd__pick : SD := ⟨O3, fun x => (Ab x.1 x.2.1).bind fun r => some ((r.1, ()), (r.2, ()))⟩
noncomputable def Ft (a0 : (List Int) × Int × Unit) (a1 : Int) : Option ((((Int) × Unit) × (((List Int) × Int × Unit) × Unit))) :=
 bif decide (a1 < 1) then some ((0, ()), (a0.1, IntKind.i64.wrap (a0.2.1 + 1), ()), ()) else bif nI (List.length a0.1) == 0 then some ((0, ()), (a0.1, IntKind.i64.wrap (a0.2.1 + 1), ()), ()) else bif decide (IntKind.i64.wrap (IntKind.i64.wrap (a0.2.1 + 1) - 1) < nI (List.length a0.1)) then bif decide (0 ≤ IntKind.i64.wrap (IntKind.i64.wrap (a0.2.1 + 1) - 1)) then bif decide (IntKind.i64.wrap (IntKind.i64.wrap (a0.2.1 + 1) - 1) < nI (List.length a0.1)) then bif !decide (a1 = 0) then some (((IntKind.i64.wrap (List.getD a0.1 (IntKind.i64.wrap (IntKind.i64.wrap (a0.2.1 + 1) - 1)).toNat 0)).tmod a1, ()), (a0.1, IntKind.i64.wrap (a0.2.1 + 1), ()), ()) else none else none else none else bif !decide (nI (List.length a0.1) = 0) then bif decide (0 ≤ (IntKind.i64.wrap (IntKind.i64.wrap (a0.2.1 + 1) - 1)).tmod (nI (List.length a0.1))) then bif decide ((IntKind.i64.wrap (IntKind.i64.wrap (a0.2.1 + 1) - 1)).tmod (nI (List.length a0.1)) < nI (List.length a0.1)) then bif !decide (nI (List.length a0.1) = 0) then bif decide (0 ≤ (IntKind.i64.wrap (IntKind.i64.wrap (IntKind.i64.wrap (IntKind.i64.wrap (a0.2.1 + 1) - 1) * 7) + 3)).tmod (nI (List.length a0.1))) then bif decide ((IntKind.i64.wrap (IntKind.i64.wrap (IntKind.i64.wrap (IntKind.i64.wrap (a0.2.1 + 1) - 1) * 7) + 3)).tmod (nI (List.length a0.1)) < nI (List.length a0.1)) then bif !decide (nI (List.length a0.1) = 0) then bif !decide (a1 = 0) then some (((IntKind.i64.wrap (nI (BitVec.ofInt 64 (IntKind.i64.wrap (IntKind.i64.wrap (IntKind.i64.wrap (IntKind.i64.wrap (IntKind.i64.wrap (List.getD a0.1 ((IntKind.i64.wrap (IntKind.i64.wrap (a0.2.1 + 1) - 1)).tmod (nI (List.length a0.1))).toNat 0) * 131) + IntKind.i64.wrap (IntKind.i64.wrap (List.getD a0.1 ((IntKind.i64.wrap (IntKind.i64.wrap (IntKind.i64.wrap (IntKind.i64.wrap (a0.2.1 + 1) - 1) * 7) + 3)).tmod (nI (List.length a0.1))).toNat 0) * 1117)) + IntKind.i64.wrap (IntKind.i64.wrap (IntKind.i64.wrap (a0.2.1 + 1) - 1) * 29)) + IntKind.i64.wrap (IntKind.i64.wrap ((IntKind.i64.wrap (IntKind.i64.wrap (a0.2.1 + 1) - 1)).tdiv (nI (List.length a0.1))) * 53))) ^^^ BitVec.ofInt 64 (IntKind.i64.wrap ((IntKind.i64.wrap (IntKind.i64.wrap (IntKind.i64.wrap (IntKind.i64.wrap (IntKind.i64.wrap (List.getD a0.1 ((IntKind.i64.wrap (IntKind.i64.wrap (a0.2.1 + 1) - 1)).tmod (nI (List.length a0.1))).toNat 0) * 131) + IntKind.i64.wrap (IntKind.i64.wrap (List.getD a0.1 ((IntKind.i64.wrap (IntKind.i64.wrap (IntKind.i64.wrap (IntKind.i64.wrap (a0.2.1 + 1) - 1) * 7) + 3)).tmod (nI (List.length a0.1))).toNat 0) * 1117)) + IntKind.i64.wrap (IntKind.i64.wrap (IntKind.i64.wrap (a0.2.1 + 1) - 1) * 29)) + IntKind.i64.wrap (IntKind.i64.wrap ((IntKind.i64.wrap (IntKind.i64.wrap (a0.2.1 + 1) - 1)).tdiv (nI (List.length a0.1))) * 53))).tdiv 64))).toNat)).tmod a1, ()), (a0.1, IntKind.i64.wrap (a0.2.1 + 1), ()), ()) else none else none else none else none else none else none else none else none
theorem Afs {b : List Int} {p : Int} (hb : rdB b = true) (h0 : 0 ≤ p) (h1 : p < 1099511627776) (hn : 0 < b.length) : 0 ≤ Qr b p ∧ Qr b p < 1125899906842624 := by
 have c1 := Aa7 hb (p.tmod (nI b.length)).toNat
 have c2 := Aa7 hb ((IntKind.i64.wrap (IntKind.i64.wrap (p * 7) + 3)).tmod (nI b.length)).toNat
 have c3 : 0 ≤ p.tdiv (nI b.length) ∧ p.tdiv (nI b.length) ≤ p := by
  rw [Int.tdiv_eq_ediv_of_nonneg h0]
  exact ⟨Int.ediv_nonneg h0 (by simp [nI]), Int.ediv_le_self _ h0⟩
 unfold Qr
 generalize b.getD (p.tmod (nI b.length)).toNat 0 = x at *
 generalize b.getD ((IntKind.i64.wrap (IntKind.i64.wrap (p * 7) + 3)).tmod (nI b.length)).toNat 0 = y at *
 generalize p.tdiv (nI b.length) = z at *
 rw [Ac (n := x) (by omega) (by omega), Ac (n := y) (by omega) (by omega), Ac (n := z) (by omega) (by omega), Ac (n := y * 1117) (by omega) (by omega), Ac (n := x * 131) (by omega) (by omega), Ac (n := p * 29) (by omega) (by omega), Ac (n := z * 53) (by omega) (by omega), Ac (n := x * 131 + y * 1117) (by omega) (by omega), Ac (n := x * 131 + y * 1117 + p * 29) (by omega) (by omega), Ac (by omega) (by omega)]
 omega
theorem Aft {b : List Int} {p n : Int} (hb : rdB b = true) (h0 : 0 ≤ p) (h1 : p < 1099511627776) : 0 ≤ Wa b p n ∧ (1 ≤ n → Wa b p n < n) ∧ (n < 1 → Wa b p n = 0) := by
 unfold Wa
 by_cases hn : n < 1
 ·rw [decide_eq_true hn]
  exact ⟨Int.le_refl 0, fun q => by omega, fun _ => rfl⟩
 ·rw [decide_eq_false hn, cond_false]
  refine ⟨?_, fun _ => ?_, fun q => absurd q hn⟩
  all_goals
   by_cases hl : b.length = 0
   ·rw [show (nI b.length == 0) = true by simp [nI, hl]]
    simp only [cond_true]
    omega
   ·rw [show (nI b.length == 0) = false by simp only [nI, beq_eq_false_iff_ne]; omega, cond_false]
    by_cases hp : p < nI b.length
    ·rw [decide_eq_true hp, cond_true]
     have c := Aa7 hb p.toNat
     rw [Ac (by omega) (by omega)]
     have := Uf (x := b.getD p.toNat 0) (n := n) c.1 (by omega)
     omega
    ·rw [decide_eq_false hp, cond_false]
     obtain ⟨x0, x1⟩ := Afs hb h0 h1 (by omega)
     have t : 0 ≤ (Qr b p).tdiv 64 ∧ (Qr b p).tdiv 64 ≤ Qr b p := by
      rw [Int.tdiv_eq_ediv_of_nonneg x0]
      omega
     rw [Ac (n := (Qr b p).tdiv 64) (by omega) (by omega)]
     have := Uf (n := n) (Adg x0 (by omega) t.1 (by omega)) (by omega)
     omega
theorem Ag6 {k : Nat} {r : Rd} (n : Int) (h : Rw k r) (hk : k < 1099511627776) : ∃ v, Ab r n = some (v, (r.1, r.2.1 + 1, ())) ∧ 0 ≤ v ∧ (1 ≤ n → v < n) ∧ (n < 1 → v = 0) ∧ Rw (k + 1) (r.1, r.2.1 + 1, ()) := by
 obtain ⟨h1, h2, h3⟩ := h
 have hn := Aft (n := n) h1 h2 (by omega)
 exact ⟨_, by rw [Acl, if_pos ⟨h1, h2, by omega⟩], hn.1, hn.2.1, hn.2.2, h1, by show 0 ≤ r.2.1 + 1; omega, by show r.2.1 + 1 ≤ ((k + 1 : Nat) : Int); omega⟩
theorem A2 {α : Type} {k : Nat} {r : Rd} {n : Int} {f : (Int × Unit) × Rd × Unit → Option α} {S : α → Prop} (h : Rw k r) (hk : k < 1099511627776) (hn : 1 ≤ n) (q : ∀ v r', 0 ≤ v → v < n → Rw (k + 1) r' → As (f ((v, ()), r', ())) S) :
  As (((Ab r n).bind fun val => some ((val.1, ()), val.2, ())).bind f) S := by
 obtain ⟨v, e, v0, v1, _, h'⟩ := Ag6 n h hk
 rw [e]
 exact q v _ v0 (v1 hn) h'
theorem O4 (a0 : (List Int) × Int × Unit) (a1 : Int) r (h : Ab a0 a1 = some r) : Ft a0 a1 = some ((r.1, ()), (r.2, ())) := by
 rw [Acl] at h
 split at h
 ·rename_i hc
  obtain ⟨hb, h0, h1⟩ := hc
  cases h
  unfold Ft
  have e1 : IntKind.i64.wrap (a0.2.1 + 1) = a0.2.1 + 1 := Ac (by omega) (by omega)
  have e2 : IntKind.i64.wrap (a0.2.1 + 1 - 1) = a0.2.1 := by rw [Ac (by omega) (by omega)]; omega
  simp only [e1, e2]
  unfold Wa
  by_cases hn : a1 < 1
  ·rw [decide_eq_true hn]; rfl
  ·rw [decide_eq_false hn]
   have hn0 : decide (a1 = 0) = false := decide_eq_false (by omega)
   simp only [cond_false]
   by_cases hl : a0.1.length = 0
   ·rw [show (nI a0.1.length == 0) = true by simp [nI, hl]]; rfl
   ·rw [show (nI a0.1.length == 0) = false by simp only [nI, beq_eq_false_iff_ne]; omega]
    have hl0 : decide (nI a0.1.length = 0) = false := decide_eq_false (by simp only [nI]; omega)
    simp only [cond_false]
    by_cases hp : a0.2.1 < nI a0.1.length
    ·rw [decide_eq_true hp, decide_eq_true h0, hn0]; rfl
    ·have t1 := Uf (n := nI a0.1.length) h0 (by simp only [nI]; omega)
     have w7 : IntKind.i64.wrap (IntKind.i64.wrap (a0.2.1 * 7) + 3) = a0.2.1 * 7 + 3 := by rw [Ac (n := a0.2.1 * 7) (by omega) (by omega), Ac (by omega) (by omega)]
     have t2 := Uf (x := a0.2.1 * 7 + 3) (n := nI a0.1.length) (by omega) (by simp only [nI]; omega)
     rw [← w7] at t2
     rw [decide_eq_false hp, hl0, hn0, decide_eq_true t1.1, decide_eq_true t1.2, decide_eq_true t2.1, decide_eq_true t2.2]
     rfl
 ·cases h
theorem C0 : D4 Try.prog 64 sd_spec_l1Rd__pick :=
 B9 (pat := Hj) [] Lk (B8 (l := []) trivial) trivial Try.func64 (de := fun x => Ft x.1 x.2.1) (fun x r h => D6 (O4 x.1 x.2.1) h) fun _ => by kernel_rfl
def E3 (v0 : ByteArray) (v1 : Int) (v5 : ByteArray) : Nat := v1.toNat + 1
def Wb : Sig := ⟨[.rd .str, .rd tI], [none, none], [.rd .str], [none]⟩
noncomputable def ta_spec_l1Many : Tb := tb []
def pa_spec_l1Many : Nat → Pat × (Nat → Pat) := I4 [(3, ⟨[], [(0, .lf (.d .str)), (1, .lf (.d tI)), (5, .lf (.d .str))], []⟩, [(2, ⟨[], [(5, .lf (.d .str))], []⟩)])]
noncomputable def co_spec_l1Many_3 : Code := (Aw (Cf Try.f73)).getD 0 .skip
noncomputable def E4 {R : Type}  (NX : ((ByteArray) × (Int) × (ByteArray) × Unit) → Option R) (X2 : ((ByteArray) × Unit) → Option R) (v0 : ByteArray) (v1 : Int) (v5 : ByteArray) : Option R :=
 bif decide (v1 > 0) then bif v1.tmod 2 == 1 then bif decide (v5.size + v0.size ≤ 9223372036854775807) then bif decide (v0.size + v0.size ≤ 9223372036854775807) then NX (v0 ++ v0, IntKind.i64.wrap (v1.tdiv 2), v5 ++ v0, ()) else none else none else bif decide (v0.size + v0.size ≤ 9223372036854775807) then NX (v0 ++ v0, IntKind.i64.wrap (v1.tdiv 2), v5, ()) else none else X2 (v5, ())
noncomputable def Cx : Nat → (ByteArray) → (Int) → (ByteArray) →  Option ((ByteArray) × Unit)
 | 0, _, _, _ => none
 | m + 1, v0, v1, v5 => E4  (fun d => Cx m d.1 d.2.1 d.2.2.1) (fun d => some (d)) v0 v1 v5
noncomputable def Es (a0 : ByteArray) (a1 : Int) : Option ((((ByteArray) × Unit) × (Unit))) :=
 ((fun d => Cx (E3 d.1 d.2.1 d.2.2.1) d.1 d.2.1 d.2.2.1) (a0, a1, ByteArray.mk #[], ())).bind fun val => some (val, ())
theorem Mt : ∃ f, f = @Es := ⟨_, rfl⟩
noncomputable def m_spec_l1Many := Classical.choose Mt
theorem Im : @m_spec_l1Many = @Es := Classical.choose_spec Mt
noncomputable def sd_spec_l1Many : SD := ⟨Wb, fun x => m_spec_l1Many x.1 x.2.1⟩
theorem R0 : ∀ (m n : Nat) (v0 v5 : ByteArray), n < m → n < 1099511627776 → v5.size + v0.size * n ≤ 1099511627776 → As (Cx m v0 n v5) fun r => r.1.size = v5.size + v0.size * n
 | 0, n, v0, v5, h, _, _ => by omega
 | m + 1, n, v0, v5, h, hn, ht => by
  simp only [Cx, E4]
  refine As.cond (fun c => ?_) fun c => ?_
  ·have hp : 0 < n := by simpa using c
   have e : v0.size * n = 2 * (v0.size * (n / 2)) + v0.size * (n % 2) := by
    conv => lhs; rw [← Nat.div_add_mod n 2]
    rw [Nat.mul_add, Nat.mul_left_comm]
   have e' : (v0.size + v0.size) * (n / 2) = 2 * (v0.size * (n / 2)) := by rw [Nat.add_mul]; omega
   have hle : v0.size ≤ v0.size * n := Nat.le_mul_of_pos_right _ hp
   have e1 : IntKind.i64.wrap (Int.tdiv (n : Int) 2) = ((n / 2 : Nat) : Int) := by
    rw [Int.tdiv_eq_ediv_of_nonneg (by omega), Ac (by omega) (by omega)]
    rfl
   have e2 : (Int.tmod (n : Int) 2 == 1) = decide (n % 2 = 1) := by
    rw [Int.tmod_eq_emod_of_nonneg (by omega)]
    by_cases q : n % 2 = 1
    ·rw [decide_eq_true q]; simp; omega
    ·rw [decide_eq_false q]; simp; omega
   rw [e1, e2]
   refine As.cond (fun c => ?_) fun c => ?_
   ·rw [of_decide_eq_true c, Nat.mul_one] at e
    refine As.go (decide_eq_true (by omega)) (As.go (decide_eq_true (by omega)) ?_)
    refine (R0 m (n / 2) (v0 ++ v0) (v5 ++ v0) (by omega) (by omega) (by simp only [ByteArray.size_append]; omega)).mono fun r q => ?_
    simp only [ByteArray.size_append] at q
    omega
   ·have c := of_decide_eq_false c
    rw [show n % 2 = 0 by omega, Nat.mul_zero] at e
    refine As.go (decide_eq_true (by omega)) ?_
    refine (R0 m (n / 2) (v0 ++ v0) v5 (by omega) (by omega) (by simp only [ByteArray.size_append]; omega)).mono fun r q => ?_
    simp only [ByteArray.size_append] at q
    omega
  ·have : n = 0 := by simpa using c
   subst this
   exact As.some (by simp)
theorem a7 (s : ByteArray) (n : Int) (h0 : 0 ≤ n) (h1 : n ≤ 10000) (hs : s.size ≤ 10000) : As (m_spec_l1Many s n) fun r => r.1.1.size = s.size * n.toNat := by
 obtain ⟨k, rfl⟩ : ∃ k : Nat, n = (k : Int) := ⟨n.toNat, by omega⟩
 rw [Im]
 unfold Es
 have hk : s.size * k ≤ 10000 * 10000 := Nat.mul_le_mul hs (by omega)
 refine As.bind (R0 _ k s (ByteArray.mk #[]) (by simp [E3]) (by omega) (by show 0 + s.size * k ≤ _; omega)) fun r q => As.some ?_
 rw [Int.toNat_natCast]
 exact q.trans (Nat.zero_add _)
noncomputable def Ke {R : Type} (k : Kt R) := (Ph (pa_spec_l1Many 3) (.exit 0) 2 k)
noncomputable def N4 {R : Type} : Lt R pa_spec_l1Many := (Ho (pat := pa_spec_l1Many) 3 (fun d k => (Cx (E3 d.1 d.2.1 d.2.2.1) d.1 d.2.1 d.2.2.1).bind (Ke k)) Lk)
theorem Mu : Az Try.prog ta_spec_l1Many := B8 trivial
theorem R1 {R : Type} : Bg Try.prog R 20 0 pa_spec_l1Many N4 co_spec_l1Many_3 :=
 Ed (cfg := ⟨ta_spec_l1Many, 0, 20, pa_spec_l1Many⟩) 3 [] (fun NX X d => E4  NX X d.1 d.2.1 d.2.2.1) (fun m d => Cx m d.1 d.2.1 d.2.2.1) (fun d => E3 d.1 d.2.1 d.2.2.1) Ke Mu trivial (fun f NX d => by unfold E4; simp only [Ay, Ba, Ar, Option.bind_assoc, Option.bind_none, Option.bind_some]) (fun _ _ _ => by kernel_rfl)
theorem In : D4 Try.prog 73 sd_spec_l1Many :=
 B9 (pat := pa_spec_l1Many) [co_spec_l1Many_3] N4 Mu ⟨R1, trivial⟩ Try.func73 (de := fun x => Es x.1 x.2.1) (fun x r h => by have q : m_spec_l1Many x.1 x.2.1 = some r := h; rw [Im] at q; exact q) fun _ => by kernel_rfl
def Np : Sig := ⟨[.bx 154 (.pair (.sl (.int .u8)) (.pair tI .unit))], [none], [.rd tI], [none]⟩
noncomputable def Dt (a0 : (List Int) × Int × Unit) : Option ((((Int) × Unit) × (((List Int) × Int × Unit) × Unit))) :=
 ((Ab a0 6).bind fun val => some ((val.1, ()), val.2, ())).bind fun val => bif decide (0 ≤ val.1.1) then bif decide (val.1.1 < nI [8, 8, 4, 2, 1, 1].length) then some (([8, 8, 4, 2, 1, 1].getD (Int.toNat val.1.1) 0, ()), val.2) else none else none
theorem Hv : ∃ f, f = @Dt := ⟨_, rfl⟩
noncomputable def m_spec_l1DrawWidth := Classical.choose Hv
theorem Hw : @m_spec_l1DrawWidth = @Dt := Classical.choose_spec Hv
noncomputable def sd_spec_l1DrawWidth : SD := ⟨Np, fun x => m_spec_l1DrawWidth x.1⟩
theorem Afu {k : Nat} {r : Rd} (h : Rw k r) (hk : k < 1099511627776) : As (m_spec_l1DrawWidth r) fun q => (1 ≤ q.1.1 ∧ q.1.1 ≤ 8) ∧ Rw (k + 1) q.2.1 := by
 rw [Hw]
 unfold Dt
 refine A2 h hk (by omega) fun v r' v0 v1 h' => ?_
 refine As.go (decide_eq_true v0) (As.go (decide_eq_true v1) (As.some ⟨?_, h'⟩))
 exact Il (Q := fun x : Int => 1 ≤ x ∧ x ≤ 8) (by decide) v0 v1
theorem Nq : D4 Try.prog 75 sd_spec_l1DrawWidth :=
 B9 (pat := Hj) [] Lk (B8 (l := [(64, sd_spec_l1Rd__pick)]) ⟨C0, trivial⟩) trivial Try.func75 (de := fun x => Dt x.1) (fun x r h => by have q : m_spec_l1DrawWidth x.1 = some r := h; rw [Hw] at q; exact q) fun _ => by kernel_rfl
def Wc : Sig := ⟨[.rd tI], [none], [.rd tI], [none]⟩
noncomputable def Mv (a0 : Int) : Option ((((Int) × Unit) × (Unit))) :=
 some ((IntKind.i64.wrap (IntKind.i64.wrap (64 - a0) - 8), ()), ())
noncomputable def sd_spec_l1Part : SD := ⟨Wc, fun x => Mv x.1⟩
theorem Io : D4 Try.prog 77 sd_spec_l1Part :=
 B9 (pat := Hj) [] Lk (B8 (l := []) trivial) trivial Try.func77 (de := fun x => Mv x.1) (fun x r h => h) fun _ => by kernel_rfl
def Gi (k : ByteArray) : Bool := m7 k
def Tc : Sig := ⟨[.rd .str], [none], [.rd .bool], [none]⟩
noncomputable def sd_spec_l4KeyOk : SD := ⟨Tc, fun x => some (((Gi x.1), ()), (()))⟩
noncomputable def Hp (a0 : ByteArray) : Option ((((Bool) × Unit) × (Unit))) :=
 bif decide (nI a0.size ≥ 1) then some ((decide (nI a0.size ≤ 20), ()), ()) else some ((false, ()), ())
theorem Td (a0 : ByteArray) : Hp a0 = some ((Gi a0, ()), ()) := by
 unfold Hp Gi m7 Cb
 by_cases h : (a0.size : Int) ≥ 1
 ·have : decide ((1 : Int) ≤ (a0.size : Int)) = true := by simpa using h
  simp [nI, this]
 ·have h' : ¬ (1 : Int) ≤ (a0.size : Int) := h
  simp [nI, h']
theorem Te : D4 Try.prog 70 sd_spec_l4KeyOk :=
 B9 (pat := Hj) [] Lk (B8 (l := []) trivial) trivial Try.func70 (de := fun x => Hp x.1) (fun x r h => (Td x.1).trans h) fun _ => by kernel_rfl
def Ek (b : List Chg) : Bool := D7 b
def O5 : Sig := ⟨[.rd (.sl Vu)], [none], [.rd .bool], [none]⟩
noncomputable def sd_spec_ValidBatch : SD := ⟨O5, fun x => some (((Ek x.1), ()), (()))⟩
noncomputable def ta_spec_ValidBatch : Tb := tb [(70, sd_spec_l4KeyOk)]
def pa_spec_ValidBatch : Nat → Pat × (Nat → Pat) := I4 [(5, ⟨[.sl 0 0 Vu], [(0, .lf (.d (.sl Vu))), (3, .lf (.d tI))], []⟩, [(2, p0), (1, ⟨[], [(2, .lf (.d .bool))], []⟩)])]
noncomputable def co_spec_ValidBatch_5 : Code := (Aw (Cf Try.f21)).getD 0 .skip
def Cn (v0 : List Chg) (v3 : Int) : Nat := ((v0.length : Int) - v3).toNat + 1
noncomputable def Co {R : Type}  (NX : ((List Chg) × (Int) × Unit) → Option R) (X2 : (Unit) → Option R) (X1 : ((Bool) × Unit) → Option R) (v0 : List Chg) (v3 : Int) : Option R :=
 bif decide (v3 < nI v0.length) then bif decide (0 ≤ v3) then bif decide (v3 < nI v0.length) then bif !Gi (v0.getD v3.toNat (ByteArray.mk #[], ByteArray.mk #[], false, ())).1 then X1 (false, ()) else bif decide (0 ≤ v3) then bif decide (v3 < nI v0.length) then bif decide (nI (ByteArray.size (v0.getD v3.toNat (ByteArray.mk #[], ByteArray.mk #[], false, ())).2.1) > 100) then X1 (false, ()) else bif decide (0 ≤ v3) then bif decide (v3 < nI v0.length) then bif (v0.getD v3.toNat (ByteArray.mk #[], ByteArray.mk #[], false, ())).2.2.1 then bif decide (0 ≤ v3) then bif decide (v3 < nI v0.length) then bif !ByteArray.toList (v0.getD v3.toNat (ByteArray.mk #[], ByteArray.mk #[], false, ())).2.1 == (ByteArray.mk #[]).toList then X1 (false, ()) else NX (v0, IntKind.i64.wrap (v3 + 1), ()) else none else none else NX (v0, IntKind.i64.wrap (v3 + 1), ()) else none else none else none else none else none else none else X2 PUnit.unit
noncomputable def A0 : Nat → (List Chg) → (Int) →  Option ((Unit) ⊕ ((Bool) × Unit))
 | 0, _, _ => none
 | m + 1, v0, v3 => Co  (fun d => A0 m d.1 d.2.1) (fun d => some (.inl (d))) (fun d => some (.inr (d))) v0 v3
noncomputable def Fu (a0 : List Chg) : Option ((((Bool) × Unit) × (Unit))) :=
 bif decide (nI a0.length < 1) then some ((false, ()), ()) else bif decide (nI a0.length > 20) then some ((false, ()), ()) else ((fun d => A0 (Cn d.1 d.2.1) d.1 d.2.1) (a0, 0, ())).bind fun val => Ij (fun d => some ((true, ()), ())) (fun d => some (d, ())) val
theorem O6 (a0 : List Chg) : Fu a0 = some (((Ek a0), ()), (())) := by
 unfold Fu Ek D7
 have tl : ByteArray.toList (ByteArray.mk #[]) = [] := by decide +kernel
 rw [Afb (nI (List.length a0))]
 show (bif Cb (a0.length : Int) 1 20 then _ else _) = _
 cases hin : Cb (a0.length : Int) 1 20 with
 | false => rfl
 | true =>
  have hlen : a0.length ≤ 20 := by have := (Ei hin).2; omega
  have hL := Qg (n := a0.length) (fun i => Mk (a0.getD i zC)) (g := fun m i => A0 m a0 i) (ok := .inl ()) (bad := .inr (false, ())) (fun m i hi => by
   show A0 (m + 1) a0 i = _
   simp only [A0, Co]
   rw [tl, cLt hi, Rr, wI (show i < 4611686018427387904 by omega), Int.toNat_natCast]
   have g1 : decide (nI (ByteArray.size (List.getD a0 i (ByteArray.mk #[], ByteArray.mk #[], false, ())).2.1) > 100) = !decide ((a0.getD i zC).2.1.size ≤ 100) := Ahp _ 100
   rw [g1]
   show (bif !m7 (a0.getD i zC).1 then _ else (bif _ then _ else (bif (a0.getD i zC).2.2.1 then (bif !((a0.getD i zC).2.1.toList == []) then _ else _) else _))) = _
   unfold Mk
   cases m7 (a0.getD i zC).1 <;> cases decide ((a0.getD i zC).2.1.size ≤ 100) <;> cases (a0.getD i zC).2.2.1 <;> cases ((a0.getD i zC).2.1.toList == []) <;> rfl) (fun m => by
   show A0 (m + 1) a0 (a0.length : Int) = _
   simp only [A0, Co]
   rw [Aa4]
   rfl) (Cn a0 0) 0 (by omega) (by simp [Cn, nI])
  refine Sz hL ?_
  rw [Nat.sub_zero]
  cases (List.range' 0 a0.length).all (fun i => Mk (a0.getD i zC)) <;> rfl
noncomputable def Hk {R : Type} (k : Kt R) := (Ij (Ph (pa_spec_ValidBatch 5) (.exit 0) 2 k) (Ph (pa_spec_ValidBatch 5) .ret 1 k))
noncomputable def Ji {R : Type} : Lt R pa_spec_ValidBatch := (Ho (pat := pa_spec_ValidBatch) 5 (fun d k => (A0 (Cn d.1 d.2.1) d.1 d.2.1).bind (Hk k)) Lk)
theorem Ip : Az Try.prog ta_spec_ValidBatch := B8 ⟨Te, trivial⟩
theorem Mw {R : Type} : Bg Try.prog R 49 0 pa_spec_ValidBatch Ji co_spec_ValidBatch_5 :=
 Ed (cfg := ⟨ta_spec_ValidBatch, 0, 49, pa_spec_ValidBatch⟩) 5 [] (fun NX X d => Co  NX (fun e => X (.inl (e))) (fun e => X (.inr (e))) d.1 d.2.1) (fun m d => A0 m d.1 d.2.1) (fun d => Cn d.1 d.2.1) Hk Ip trivial (fun f NX d => by unfold Co; simp only [Ay, Ba, Ar, Option.bind_assoc, Option.bind_none, Option.bind_some]) (fun _ _ _ => by kernel_rfl)
theorem O7 : D4 Try.prog 21 sd_spec_ValidBatch :=
 B9 (pat := pa_spec_ValidBatch) [co_spec_ValidBatch_5] Ji Ip ⟨Mw, trivial⟩ Try.func21 (de := fun x => Fu x.1) (fun x r h => (O6 x.1).trans h) fun _ => by kernel_rfl
def E5 (b : List Chg) : ByteArray := Mn b
def Qs : Sig := ⟨[.rd (.sl Vu)], [none], [.rd .str], [none]⟩
noncomputable def sd_spec_FormBatch : SD := ⟨Qs, fun x => some (((E5 x.1), ()), (()))⟩
noncomputable def ta_spec_FormBatch : Tb := tb [(21, sd_spec_ValidBatch)]
def pa_spec_FormBatch : Nat → Pat × (Nat → Pat) := I4 [(6, ⟨[.sl 0 0 Vu, .row 3 0 5 (.int .u8)], [(0, .lf (.d (.sl Vu))), (3, .lf (.row 0)), (4, .lf (.d tI))], [.row 5 (.int .u8)]⟩, [(2, ⟨[.row 3 0 5 (.int .u8)], [(3, .lf (.row 0))], [.row 5 (.int .u8)]⟩)])]
noncomputable def co_spec_FormBatch_6 : Code := (Aw (Cf Try.f20)).getD 0 .skip
def Cu (v0 : List Chg) (v4 : Int) (r0 : List Int) : Nat := ((v0.length : Int) - v4).toNat + 1
noncomputable def Cv {R : Type}  (NX : ((List Chg) × (Int) × (List Int) × Unit) → Option R) (X2 : ((List Int) × Unit) → Option R) (v0 : List Chg) (v4 : Int) (r0 : List Int) : Option R :=
 bif decide (v4 < nI v0.length) then bif decide (0 ≤ v4) then bif decide (v4 < nI v0.length) then bif (v0.getD v4.toNat (ByteArray.mk #[], ByteArray.mk #[], false, ())).2.2.1 then bif decide (0 ≤ v4) then bif decide (v4 < nI v0.length) then bif decide ((r0.length + [1, IntKind.u8.wrap (nI (ByteArray.size (v0.getD v4.toNat (ByteArray.mk #[], ByteArray.mk #[], false, ())).1))].length) * 1 ≤ 140737488355328) then bif decide (0 ≤ v4) then bif decide (v4 < nI v0.length) then bif decide ((r0 ++ [1, IntKind.u8.wrap (nI (ByteArray.size (v0.getD v4.toNat (ByteArray.mk #[], ByteArray.mk #[], false, ())).1))]).length + ByteArray.size (v0.getD v4.toNat (ByteArray.mk #[], ByteArray.mk #[], false, ())).1 ≤ 140737488355328) then NX (v0, IntKind.i64.wrap (v4 + 1), r0 ++ [1, IntKind.u8.wrap (nI (ByteArray.size (v0.getD v4.toNat (ByteArray.mk #[], ByteArray.mk #[], false, ())).1))] ++ Ah (v0.getD v4.toNat (ByteArray.mk #[], ByteArray.mk #[], false, ())).1, ()) else none else none else none else none else none else none else bif decide (0 ≤ v4) then bif decide (v4 < nI v0.length) then bif decide ((r0.length + [0, IntKind.u8.wrap (nI (ByteArray.size (v0.getD v4.toNat (ByteArray.mk #[], ByteArray.mk #[], false, ())).1))].length) * 1 ≤ 140737488355328) then bif decide (0 ≤ v4) then bif decide (v4 < nI v0.length) then bif decide ((r0 ++ [0, IntKind.u8.wrap (nI (ByteArray.size (v0.getD v4.toNat (ByteArray.mk #[], ByteArray.mk #[], false, ())).1))]).length + ByteArray.size (v0.getD v4.toNat (ByteArray.mk #[], ByteArray.mk #[], false, ())).1 ≤ 140737488355328) then bif decide (0 ≤ v4) then bif decide (v4 < nI v0.length) then bif decide (((r0 ++ [0, IntKind.u8.wrap (nI (ByteArray.size (v0.getD v4.toNat (ByteArray.mk #[], ByteArray.mk #[], false, ())).1))] ++ Ah (v0.getD v4.toNat (ByteArray.mk #[], ByteArray.mk #[], false, ())).1).length + [IntKind.u8.wrap (nI (ByteArray.size (v0.getD v4.toNat (ByteArray.mk #[], ByteArray.mk #[], false, ())).2.1))].length) * 1 ≤ 140737488355328) then bif decide (0 ≤ v4) then bif decide (v4 < nI v0.length) then bif decide ((r0 ++ [0, IntKind.u8.wrap (nI (ByteArray.size (v0.getD v4.toNat (ByteArray.mk #[], ByteArray.mk #[], false, ())).1))] ++ Ah (v0.getD v4.toNat (ByteArray.mk #[], ByteArray.mk #[], false, ())).1 ++ [IntKind.u8.wrap (nI (ByteArray.size (v0.getD v4.toNat (ByteArray.mk #[], ByteArray.mk #[], false, ())).2.1))]).length + ByteArray.size (v0.getD v4.toNat (ByteArray.mk #[], ByteArray.mk #[], false, ())).2.1 ≤ 140737488355328) then NX (v0, IntKind.i64.wrap (v4 + 1), r0 ++ [0, IntKind.u8.wrap (nI (ByteArray.size (v0.getD v4.toNat (ByteArray.mk #[], ByteArray.mk #[], false, ())).1))] ++ Ah (v0.getD v4.toNat (ByteArray.mk #[], ByteArray.mk #[], false, ())).1 ++ [IntKind.u8.wrap (nI (ByteArray.size (v0.getD v4.toNat (ByteArray.mk #[], ByteArray.mk #[], false, ())).2.1))] ++ Ah (v0.getD v4.toNat (ByteArray.mk #[], ByteArray.mk #[], false, ())).2.1, ()) else none else none else none else none else none else none else none else none else none else none else none else none else none else none else X2 (r0, ())
noncomputable def A3 : Nat → (List Chg) → (Int) → (List Int) →  Option ((List Int) × Unit)
 | 0, _, _, _ => none
 | m + 1, v0, v4, r0 => Cv  (fun d => A3 m d.1 d.2.1 d.2.2.1) (fun d => some (d)) v0 v4 r0
noncomputable def Gj (a0 : List Chg) : Option ((((ByteArray) × Unit) × (Unit))) :=
 bif !Ek a0 then some ((ByteArray.mk #[], ()), ()) else ((fun d => A3 (Cu d.1 d.2.1 d.2.2.1) d.1 d.2.1 d.2.2.1) (a0, 0, [], ())).bind fun val => some ((strOfNums val.1, ()), ())
theorem Qt (a0 : List Chg) : Gj a0 = some ((E5 a0, ()), (())) := by
 unfold Gj E5 Mn
 show (bif !D7 a0 then _ else _) = _
 cases hv : D7 a0 with
 | false => rfl
 | true =>
  obtain ⟨hlen, hok⟩ := N2 hv
  have hL := Qi a0.length Acg (fun i r => r ++ Z5 (a0.getD i zC)) (g := fun m i r => A3 m a0 i r) (ok := fun r => (r, ())) (fun m i r hi hr => by
   show A3 (m + 1) a0 i r = _
   simp only [A3, Cv]
   have hc := hok i hi
   obtain ⟨k1, k2, k3⟩ := Ys hc
   rw [cLt hi, Rr, wI (show i < 4611686018427387904 by omega), Int.toNat_natCast]
   have hr1 := hr.1
   have eC : List.getD a0 i (ByteArray.mk #[], ByteArray.mk #[], false, ()) = a0.getD i zC := rfl
   rw [eC]
   generalize a0.getD i zC = c at *
   rw [Ahr _ (show c.1.size < 256 by omega), Ahr _ (show c.2.1.size < 256 by omega)]
   simp only [List.length_append, List.length_cons, List.length_nil, Dg]
   rw [decide_eq_true (show (r.length + (0 + 1 + 1)) * 1 ≤ 140737488355328 by omega), decide_eq_true (show r.length + (0 + 1 + 1) + c.1.size ≤ 140737488355328 by omega), decide_eq_true (show (r.length + (0 + 1 + 1) + c.1.size + (0 + 1)) * 1 ≤ 140737488355328 by omega), decide_eq_true (show r.length + (0 + 1 + 1) + c.1.size + (0 + 1) + c.2.1.size ≤ 140737488355328 by omega)]
   unfold Z5
   simp only [cond_true]
   cases c.2.2.1 <;> simp only [cond_true, cond_false, List.append_assoc]) (fun m r _ => by
   show A3 (m + 1) a0 (a0.length : Int) r = _
   simp only [A3, Cv]
   rw [Aa4]
   rfl) (fun i r hi hr => hr.step (hok i hi)) a0.length (Cu a0 0 []) 0 [] (by omega) (by simp [Cu, nI]) ⟨by simp, rfl⟩
  rw [o7 Z5 zC a0 a0.length 0 [] (by omega), List.nil_append, List.drop_zero] at hL
  refine Sz hL ?_
  rfl
noncomputable def Hx {R : Type} (k : Kt R) := (Ph (pa_spec_FormBatch 6) (.exit 0) 2 k)
noncomputable def Kf {R : Type} : Lt R pa_spec_FormBatch := (Ho (pat := pa_spec_FormBatch) 6 (fun d k => (A3 (Cu d.1 d.2.1 d.2.2.1) d.1 d.2.1 d.2.2.1).bind (Hx k)) Lk)
theorem Jj : Az Try.prog ta_spec_FormBatch := B8 ⟨O7, trivial⟩
theorem Nr {R : Type} : Bg Try.prog R 70 0 pa_spec_FormBatch Kf co_spec_FormBatch_6 :=
 Ed (cfg := ⟨ta_spec_FormBatch, 0, 70, pa_spec_FormBatch⟩) 6 [] (fun NX X d => Cv  NX X d.1 d.2.1 d.2.2.1) (fun m d => A3 m d.1 d.2.1 d.2.2.1) (fun d => Cu d.1 d.2.1 d.2.2.1) Hx Jj trivial (fun f NX d => by unfold Cv; simp only [Ay, Ba, Ar, Option.bind_assoc, Option.bind_none, Option.bind_some]) (fun _ _ _ => by kernel_rfl)
theorem Qu : D4 Try.prog 20 sd_spec_FormBatch :=
 B9 (pat := pa_spec_FormBatch) [co_spec_FormBatch_6] Kf Jj ⟨Nr, trivial⟩ Try.func20 (de := fun x => Gj x.1) (fun x r h => (Qt x.1).trans h) fun _ => by kernel_rfl
def Dc (v3 : ByteArray) (v4 : Int) (b0 : (List Int) × Int × Unit) : Nat := v4.toNat + 1
def O8 : Sig := ⟨[.bx 154 (.pair (.sl (.int .u8)) (.pair tI .unit))], [none], [.rd .str], [none]⟩
noncomputable def ta_spec_l1DrawText : Tb := tb [(64, sd_spec_l1Rd__pick), (73, sd_spec_l1Many)]
def pa_spec_l1DrawText : Nat → Pat × (Nat → Pat) := I4 [(13, ⟨[], [(0, .lf (.ptr 0 0)), (3, .lf (.d .str)), (4, .lf (.d tI))], [.box 154 [.d (.pair (.sl (.int .u8)) (.pair tI .unit))]]⟩, [(3, ⟨[], [(3, .lf (.d .str))], [.box 154 [.d (.pair (.sl (.int .u8)) (.pair tI .unit))]]⟩)])]
noncomputable def co_spec_l1DrawText_13 : Code := (Aw (Cf Try.f117)).getD 0 .skip
noncomputable def Dd {R : Type}  (NX : ((ByteArray) × (Int) × ((List Int) × Int × Unit) × Unit) → Option R) (X3 : ((ByteArray) × ((List Int) × Int × Unit) × Unit) → Option R) (v3 : ByteArray) (v4 : Int) (b0 : (List Int) × Int × Unit) : Option R :=
 bif decide (v4 > 0) then ((Ab b0 4).bind fun val => some ((val.1, ()), val.2, ())).bind fun val => bif decide (0 ≤ val.1.1) then bif decide (val.1.1 ≤ nI (ByteArray.mk #[97, 98, 99, 100]).size) then bif decide (1 ≤ nI (Ad (ByteArray.mk #[97, 98, 99, 100]) val.1.1 (nI (ByteArray.mk #[97, 98, 99, 100]).size)).size) then bif decide (v3.size + (Ad (Ad (ByteArray.mk #[97, 98, 99, 100]) val.1.1 (nI (ByteArray.mk #[97, 98, 99, 100]).size)) 0 1).size ≤ 9223372036854775807) then NX (v3 ++ Ad (Ad (ByteArray.mk #[97, 98, 99, 100]) val.1.1 (nI (ByteArray.mk #[97, 98, 99, 100]).size)) 0 1, IntKind.i64.wrap (v4 - 1), val.2) else none else none else none else none else X3 (v3, b0, ())
noncomputable def Bq : Nat → (ByteArray) → (Int) → ((List Int) × Int × Unit) →  Option ((ByteArray) × ((List Int) × Int × Unit) × Unit)
 | 0, _, _, _ => none
 | m + 1, v3, v4, b0 => Dd  (fun d => Bq m d.1 d.2.1 d.2.2.1) (fun d => some (d)) v3 v4 b0
noncomputable def Eb (a0 : (List Int) × Int × Unit) : Option ((((ByteArray) × Unit) × (((List Int) × Int × Unit) × Unit))) :=
 ((Ab a0 8).bind fun val => some ((val.1, ()), val.2, ())).bind fun val => bif val.1.1 == 0 then some ((ByteArray.mk #[], ()), val.2) else bif val.1.1 == 1 then some ((ByteArray.mk #[0, 255], ()), val.2) else bif val.1.1 == 2 then ((Ab val.2.1 21).bind fun val => some ((val.1, ()), val.2, ())).bind fun val => (m_spec_l1Many (ByteArray.mk #[108, 111, 110, 103]) (IntKind.i64.wrap (5 + val.1.1))).bind fun val_1 => some (val_1.1, val.2) else bif val.1.1 == 3 then some ((ByteArray.mk #[45], ()), val.2) else ((Ab val.2.1 4).bind fun val => some ((val.1, ()), val.2, ())).bind fun val => ((fun d => Bq (Dc d.1 d.2.1 d.2.2.1) d.1 d.2.1 d.2.2.1) (ByteArray.mk #[], IntKind.i64.wrap (1 + val.1.1), val.2)).bind fun val => some ((val.1, ()), val.2)
theorem Ir : ∃ f, f = @Eb := ⟨_, rfl⟩
noncomputable def m_spec_l1DrawText := Classical.choose Ir
theorem Is : @m_spec_l1DrawText = @Eb := Classical.choose_spec Ir
noncomputable def sd_spec_l1DrawText : SD := ⟨O8, fun x => m_spec_l1DrawText x.1⟩
theorem Y0 : ∀ (m n : Nat) (k : Nat) (v3 : ByteArray) (r : Rd), n < m → n ≤ 10 → v3.size + n ≤ 100 → Rw k r → k + n < 1099511627776 → As (Bq m v3 n r) fun q => q.1.size ≤ 100 ∧ Rw (k + n) q.2.1
 | 0, n, k, v3, r, h, _, _, _, _ => by omega
 | m + 1, n, k, v3, r, h, hn, hs, hr, hk => by
  simp only [Bq, Dd]
  refine As.cond (fun c => ?_) fun c => ?_
  ·have hp : 0 < n := by simpa using c
   refine A2 hr (by omega) (by omega) fun v r' v0 v1 h' => ?_
   have sz : ((ByteArray.mk #[97, 98, 99, 100]).size : Int) = 4 := rfl
   have e1 := Ue (s := ByteArray.mk #[97, 98, 99, 100]) v0 (show v ≤ nI (ByteArray.mk #[97, 98, 99, 100]).size by simp only [nI, sz]; omega) (Int.le_refl _)
   have e2 := Ue (s := Ad (ByteArray.mk #[97, 98, 99, 100]) v (nI (ByteArray.mk #[97, 98, 99, 100]).size)) (i := 0) (j := 1) (by omega) (by omega) (by simp only [nI, sz] at e1 ⊢; omega)
   refine As.go (decide_eq_true v0) (As.go (decide_eq_true (show v ≤ _ by simp only [nI, sz]; omega)) (As.go (decide_eq_true (show 1 ≤ nI (Ad (ByteArray.mk #[97, 98, 99, 100]) v (nI (ByteArray.mk #[97, 98, 99, 100]).size)).size by simp only [nI, sz] at e1 ⊢; omega)) (As.go (decide_eq_true (show v3.size + (Ad (Ad (ByteArray.mk #[97, 98, 99, 100]) v (nI (ByteArray.mk #[97, 98, 99, 100]).size)) 0 1).size ≤ _ by omega)) ?_)))
   have ew : IntKind.i64.wrap ((n : Int) - 1) = ((n - 1 : Nat) : Int) := by rw [Ac (by omega) (by omega)]; omega
   rw [ew]
   refine (Y0 m (n - 1) (k + 1) (v3 ++ Ad (Ad (ByteArray.mk #[97, 98, 99, 100]) v (nI (ByteArray.mk #[97, 98, 99, 100]).size)) 0 1) r' (by omega) (by omega) (by rw [ByteArray.size_append]; omega) h' (by omega)).mono fun q hq => ⟨hq.1, ?_⟩
   rw [show k + 1 + (n - 1) = k + n by omega] at hq
   exact hq.2
  ·have : n = 0 := by simpa using c
   subst this
   exact As.some ⟨by show v3.size ≤ 100; omega, hr⟩
theorem Ag7 {k : Nat} {r : Rd} (h : Rw k r) (hk : k + 10 < 1099511627776) : As (m_spec_l1DrawText r) fun q => q.1.1.size ≤ 100 ∧ Rw (k + 10) q.2.1 := by
 rw [Is]
 unfold Eb
 refine A2 h (by omega) (by omega) fun v r' v0 v1 h1 => ?_
 refine As.cond (fun _ => As.some ⟨Nat.zero_le _, h1.mono (by omega)⟩) fun _ => As.cond (fun _ => As.some ⟨by show 2 ≤ 100; omega, h1.mono (by omega)⟩) fun _ => As.cond (fun _ => ?_) fun _ => As.cond (fun _ => As.some ⟨by show 1 ≤ 100; omega, h1.mono (by omega)⟩) fun _ => ?_
 ·dsimp only
  refine A2 h1 (by omega) (by omega) fun v2 r2 w0 w1 h2 => ?_
  dsimp only
  have ew : IntKind.i64.wrap (5 + v2) = 5 + v2 := Ac (by omega) (by omega)
  simp only [ew]
  refine As.bind (a7 (ByteArray.mk #[108, 111, 110, 103]) (5 + v2) (by omega) (by omega) (by decide)) fun q hq => As.some ⟨?_, h2.mono (by omega)⟩
  show q.1.1.size ≤ 100
  rw [hq]
  show 4 * _ ≤ 100
  omega
 ·dsimp only
  refine A2 h1 (by omega) (by omega) fun v2 r2 w0 w1 h2 => ?_
  dsimp only
  have ew : IntKind.i64.wrap (1 + v2) = ((1 + v2).toNat : Int) := by rw [Ac (by omega) (by omega)]; omega
  simp only [ew]
  refine As.bind (Y0 _ (1 + v2).toNat (k + 2) (ByteArray.mk #[]) r2 (by simp only [Dc]; omega) (by omega) (by show 0 + _ ≤ 100; omega) h2 (by omega)) fun q hq => As.some ⟨hq.1, hq.2.mono (by omega)⟩
noncomputable def Gr {R : Type} (k : Kt R) := (Ph (pa_spec_l1DrawText 13) (.exit 1) 3 k)
noncomputable def Jk {R : Type} : Lt R pa_spec_l1DrawText := (Ho (pat := pa_spec_l1DrawText) 13 (fun d k => (Bq (Dc d.1 d.2.1 d.2.2.1) d.1 d.2.1 d.2.2.1).bind (Gr k)) Lk)
theorem It : Az Try.prog ta_spec_l1DrawText := B8 ⟨C0, In, trivial⟩
theorem Lx {R : Type} : Bg Try.prog R 33 1 pa_spec_l1DrawText Jk co_spec_l1DrawText_13 :=
 Ed (cfg := ⟨ta_spec_l1DrawText, 1, 33, pa_spec_l1DrawText⟩) 13 [] (fun NX X d => Dd  NX X d.1 d.2.1 d.2.2.1) (fun m d => Bq m d.1 d.2.1 d.2.2.1) (fun d => Dc d.1 d.2.1 d.2.2.1) Gr It trivial (fun f NX d => by unfold Dd; simp only [Ay, Ba, Ar, Option.bind_assoc, Option.bind_none, Option.bind_some]) (fun _ _ _ => by kernel_rfl)
theorem O9 : D4 Try.prog 117 sd_spec_l1DrawText :=
 B9 (pat := pa_spec_l1DrawText) [co_spec_l1DrawText_13] Jk It ⟨Lx, trivial⟩ Try.func117 (de := fun x => Eb x.1) (fun x r h => by have q : m_spec_l1DrawText x.1 = some r := h; rw [Is] at q; exact q) fun _ => by kernel_rfl
def Ns : Sig := ⟨[.bx 154 (.pair (.sl (.int .u8)) (.pair tI .unit))], [none], [.own 90 Vu], [none]⟩
noncomputable def ta_spec_l4DrawBatch : Tb := tb [(64, sd_spec_l1Rd__pick), (117, sd_spec_l1DrawText)]
def pa_spec_l4DrawBatch : Nat → Pat × (Nat → Pat) := I4 [(7, ⟨[.row 3 0 90 Vu], [(0, .lf (.ptr 0 0)), (3, .lf (.row 1)), (4, .lf (.d tI)), (5, .lf (.d tI))], [.box 154 [.d (.pair (.sl (.int .u8)) (.pair tI .unit))], .row 90 Vu]⟩, [(2, ⟨[.row 3 0 90 Vu], [(3, .lf (.row 1))], [.box 154 [.d (.pair (.sl (.int .u8)) (.pair tI .unit))], .row 90 Vu]⟩)])]
noncomputable def co_spec_l4DrawBatch_7 : Code := (Aw (Cf Try.f63)).getD 0 .skip
def Br (v4 : Int) (v5 : Int) (b0 : (List Int) × Int × Unit) (r1 : List Chg) : Nat := (v4 - v5).toNat + 1
noncomputable def De {R : Type}  (NX : ((Int) × (Int) × ((List Int) × Int × Unit) × (List Chg) × Unit) → Option R) (X2 : (((List Int) × Int × Unit) × (List Chg) × Unit) → Option R) (v4 : Int) (v5 : Int) (b0 : (List Int) × Int × Unit) (r1 : List Chg) : Option R :=
 bif decide (v5 < v4) then ((Ab b0 8).bind fun val => some ((val.1, ()), val.2, ())).bind fun val => bif decide (0 ≤ val.1.1) then bif decide (val.1.1 ≤ nI (ByteArray.mk #[97, 98, 99, 100, 101, 102, 103, 104]).size) then bif decide (1 ≤ nI (Ad (ByteArray.mk #[97, 98, 99, 100, 101, 102, 103, 104]) val.1.1 (nI (ByteArray.mk #[97, 98, 99, 100, 101, 102, 103, 104]).size)).size) then bif decide ((ByteArray.mk #[107]).size + (Ad (Ad (ByteArray.mk #[97, 98, 99, 100, 101, 102, 103, 104]) val.1.1 (nI (ByteArray.mk #[97, 98, 99, 100, 101, 102, 103, 104]).size)) 0 1).size ≤ 9223372036854775807) then ((Ab val.2.1 4).bind fun val => some ((val.1, ()), val.2, ())).bind fun val_1 => bif decide (v4 > 8) then ((Ab val_1.2.1 3).bind fun val => some ((val.1, ()), val.2, ())).bind fun val_2 => bif decide (0 ≤ val_2.1.1) then bif decide (val_2.1.1 ≤ nI (ByteArray.mk #[120, 121, 122]).size) then bif decide (1 ≤ nI (Ad (ByteArray.mk #[120, 121, 122]) val_2.1.1 (nI (ByteArray.mk #[120, 121, 122]).size)).size) then bif decide ((ByteArray.mk #[107] ++ Ad (Ad (ByteArray.mk #[97, 98, 99, 100, 101, 102, 103, 104]) val.1.1 (nI (ByteArray.mk #[97, 98, 99, 100, 101, 102, 103, 104]).size)) 0 1).size + (Ad (Ad (ByteArray.mk #[120, 121, 122]) val_2.1.1 (nI (ByteArray.mk #[120, 121, 122]).size)) 0 1).size ≤ 9223372036854775807) then bif !val_1.1.1 == 0 then (m_spec_l1DrawText val_2.2.1).bind fun val_3 => bif decide (nI (ByteArray.size val_3.1.1) > 100) then bif decide (100 ≤ nI (ByteArray.size val_3.1.1)) then bif decide ((r1.length + [(ByteArray.mk #[107] ++ Ad (Ad (ByteArray.mk #[97, 98, 99, 100, 101, 102, 103, 104]) val.1.1 (nI (ByteArray.mk #[97, 98, 99, 100, 101, 102, 103, 104]).size)) 0 1 ++ Ad (Ad (ByteArray.mk #[120, 121, 122]) val_2.1.1 (nI (ByteArray.mk #[120, 121, 122]).size)) 0 1, Ad val_3.1.1 0 100, val_1.1.1 == 0, ())].length) * 40 ≤ 140737488355328) then NX (v4, IntKind.i64.wrap (v5 + 1), val_3.2.1, r1 ++ [(ByteArray.mk #[107] ++ Ad (Ad (ByteArray.mk #[97, 98, 99, 100, 101, 102, 103, 104]) val.1.1 (nI (ByteArray.mk #[97, 98, 99, 100, 101, 102, 103, 104]).size)) 0 1 ++ Ad (Ad (ByteArray.mk #[120, 121, 122]) val_2.1.1 (nI (ByteArray.mk #[120, 121, 122]).size)) 0 1, Ad val_3.1.1 0 100, val_1.1.1 == 0, ())], ()) else none else none else bif decide ((r1.length + [(ByteArray.mk #[107] ++ Ad (Ad (ByteArray.mk #[97, 98, 99, 100, 101, 102, 103, 104]) val.1.1 (nI (ByteArray.mk #[97, 98, 99, 100, 101, 102, 103, 104]).size)) 0 1 ++ Ad (Ad (ByteArray.mk #[120, 121, 122]) val_2.1.1 (nI (ByteArray.mk #[120, 121, 122]).size)) 0 1, val_3.1.1, val_1.1.1 == 0, ())].length) * 40 ≤ 140737488355328) then NX (v4, IntKind.i64.wrap (v5 + 1), val_3.2.1, r1 ++ [(ByteArray.mk #[107] ++ Ad (Ad (ByteArray.mk #[97, 98, 99, 100, 101, 102, 103, 104]) val.1.1 (nI (ByteArray.mk #[97, 98, 99, 100, 101, 102, 103, 104]).size)) 0 1 ++ Ad (Ad (ByteArray.mk #[120, 121, 122]) val_2.1.1 (nI (ByteArray.mk #[120, 121, 122]).size)) 0 1, val_3.1.1, val_1.1.1 == 0, ())], ()) else none else bif decide ((r1.length + [(ByteArray.mk #[107] ++ Ad (Ad (ByteArray.mk #[97, 98, 99, 100, 101, 102, 103, 104]) val.1.1 (nI (ByteArray.mk #[97, 98, 99, 100, 101, 102, 103, 104]).size)) 0 1 ++ Ad (Ad (ByteArray.mk #[120, 121, 122]) val_2.1.1 (nI (ByteArray.mk #[120, 121, 122]).size)) 0 1, ByteArray.mk #[], val_1.1.1 == 0, ())].length) * 40 ≤ 140737488355328) then NX (v4, IntKind.i64.wrap (v5 + 1), val_2.2.1, r1 ++ [(ByteArray.mk #[107] ++ Ad (Ad (ByteArray.mk #[97, 98, 99, 100, 101, 102, 103, 104]) val.1.1 (nI (ByteArray.mk #[97, 98, 99, 100, 101, 102, 103, 104]).size)) 0 1 ++ Ad (Ad (ByteArray.mk #[120, 121, 122]) val_2.1.1 (nI (ByteArray.mk #[120, 121, 122]).size)) 0 1, ByteArray.mk #[], val_1.1.1 == 0, ())], ()) else none else none else none else none else none else bif !val_1.1.1 == 0 then (m_spec_l1DrawText val_1.2.1).bind fun val_2 => bif decide (nI (ByteArray.size val_2.1.1) > 100) then bif decide (100 ≤ nI (ByteArray.size val_2.1.1)) then bif decide ((r1.length + [(ByteArray.mk #[107] ++ Ad (Ad (ByteArray.mk #[97, 98, 99, 100, 101, 102, 103, 104]) val.1.1 (nI (ByteArray.mk #[97, 98, 99, 100, 101, 102, 103, 104]).size)) 0 1, Ad val_2.1.1 0 100, val_1.1.1 == 0, ())].length) * 40 ≤ 140737488355328) then NX (v4, IntKind.i64.wrap (v5 + 1), val_2.2.1, r1 ++ [(ByteArray.mk #[107] ++ Ad (Ad (ByteArray.mk #[97, 98, 99, 100, 101, 102, 103, 104]) val.1.1 (nI (ByteArray.mk #[97, 98, 99, 100, 101, 102, 103, 104]).size)) 0 1, Ad val_2.1.1 0 100, val_1.1.1 == 0, ())], ()) else none else none else bif decide ((r1.length + [(ByteArray.mk #[107] ++ Ad (Ad (ByteArray.mk #[97, 98, 99, 100, 101, 102, 103, 104]) val.1.1 (nI (ByteArray.mk #[97, 98, 99, 100, 101, 102, 103, 104]).size)) 0 1, val_2.1.1, val_1.1.1 == 0, ())].length) * 40 ≤ 140737488355328) then NX (v4, IntKind.i64.wrap (v5 + 1), val_2.2.1, r1 ++ [(ByteArray.mk #[107] ++ Ad (Ad (ByteArray.mk #[97, 98, 99, 100, 101, 102, 103, 104]) val.1.1 (nI (ByteArray.mk #[97, 98, 99, 100, 101, 102, 103, 104]).size)) 0 1, val_2.1.1, val_1.1.1 == 0, ())], ()) else none else bif decide ((r1.length + [(ByteArray.mk #[107] ++ Ad (Ad (ByteArray.mk #[97, 98, 99, 100, 101, 102, 103, 104]) val.1.1 (nI (ByteArray.mk #[97, 98, 99, 100, 101, 102, 103, 104]).size)) 0 1, ByteArray.mk #[], val_1.1.1 == 0, ())].length) * 40 ≤ 140737488355328) then NX (v4, IntKind.i64.wrap (v5 + 1), val_1.2.1, r1 ++ [(ByteArray.mk #[107] ++ Ad (Ad (ByteArray.mk #[97, 98, 99, 100, 101, 102, 103, 104]) val.1.1 (nI (ByteArray.mk #[97, 98, 99, 100, 101, 102, 103, 104]).size)) 0 1, ByteArray.mk #[], val_1.1.1 == 0, ())], ()) else none else none else none else none else none else X2 (b0, r1, ())
noncomputable def Am : Nat → (Int) → (Int) → ((List Int) × Int × Unit) → (List Chg) →  Option (((List Int) × Int × Unit) × (List Chg) × Unit)
 | 0, _, _, _, _ => none
 | m + 1, v4, v5, b0, r1 => De  (fun d => Am m d.1 d.2.1 d.2.2.1 d.2.2.2.1) (fun d => some (d)) v4 v5 b0 r1
noncomputable def Du (a0 : (List Int) × Int × Unit) : Option ((((List Chg) × Unit) × (((List Int) × Int × Unit) × Unit))) :=
 ((Ab a0 4).bind fun val => some ((val.1, ()), val.2, ())).bind fun val => ((Ab val.2.1 10).bind fun val => some ((val.1, ()), val.2, ())).bind fun val_1 => bif val_1.1.1 == 0 then ((Ab val_1.2.1 2).bind fun val => some ((val.1, ()), val.2, ())).bind fun val => ((fun d => Am (Br d.1 d.2.1 d.2.2.1 d.2.2.2.1) d.1 d.2.1 d.2.2.1 d.2.2.2.1) (IntKind.i64.wrap (20 - val.1.1), 0, val.2.1, [], ())).bind fun val => some (val.2, val.1, ()) else ((fun d => Am (Br d.1 d.2.1 d.2.2.1 d.2.2.2.1) d.1 d.2.1 d.2.2.1 d.2.2.2.1) (IntKind.i64.wrap (1 + val.1.1), 0, val_1.2.1, [], ())).bind fun val => some (val.2, val.1, ())
theorem Hy : ∃ f, f = @Du := ⟨_, rfl⟩
noncomputable def m_spec_l4DrawBatch := Classical.choose Hy
theorem Hz : @m_spec_l4DrawBatch = @Du := Classical.choose_spec Hy
noncomputable def sd_spec_l4DrawBatch : SD := ⟨Ns, fun x => m_spec_l4DrawBatch x.1⟩
theorem Wd (n : Nat) (hn : n ≤ 20) : ∀ (m i k : Nat) (r : Rd) (l : List Chg), n - i < m → i ≤ n → l.length = i → (∀ c ∈ l, W6 c) → Rw k r → k + 15 * (n - i) < 1099511627776 →
  As (Am m n i r l) fun q => Rw (k + 15 * (n - i)) q.1 ∧ q.2.1.length = n ∧ ∀ c ∈ q.2.1, W6 c
 | 0, i, k, r, l, h, _, _, _, _, _ => by omega
 | m + 1, i, k, r, l, h, hi, hl, hc, hr, hk => by
  simp only [Am, De]
  refine As.cond (fun c => ?_) fun c => ?_
  ·have hi' : i < n := by simpa using c
   have fin : ∀ (c : Chg) (r' : Rd), W6 c → Rw (k + 15) r' → As (bif decide ((l.length + [c].length) * 40 ≤ 140737488355328) then Am m n (IntKind.i64.wrap ((i : Int) + 1)) r' (l ++ [c]) else none) fun q => Rw (k + 15 * (n - i)) q.1 ∧ q.2.1.length = n ∧ ∀ c ∈ q.2.1, W6 c := fun c r' h1 h2 => by
    refine As.go (decide_eq_true (by simp only [List.length_singleton]; omega)) ?_
    rw [wI (by omega)]
    refine (Wd n hn m (i + 1) (k + 15) r' (l ++ [c]) (by omega) (by omega) (by rw [List.length_append, List.length_singleton, hl]) (Afi hc h1) h2 (by omega)).mono fun q hq => ?_
    rw [show k + 15 + 15 * (n - (i + 1)) = k + 15 * (n - i) by omega] at hq
    exact hq
   refine A2 hr (by omega) (by omega) fun v r1 v0 v1 h1 => ?_
   dsimp only
   refine As.letter v0 v1 fun s1 => ?_
   generalize Ad (Ad (ByteArray.mk #[97, 98, 99, 100, 101, 102, 103, 104]) v (nI (ByteArray.mk #[97, 98, 99, 100, 101, 102, 103, 104]).size)) 0 1 = c1 at *
   have k1 : (ByteArray.mk #[107] ++ c1).size = 2 := by rw [ByteArray.size_append, s1]; rfl
   refine As.go (decide_eq_true (by rw [s1]; decide)) ?_
   refine A2 h1 (by omega) (by omega) fun g r2 g0 g1 h2 => ?_
   dsimp only
   have val : ∀ (key : ByteArray) (r3 : Rd), key.size ≤ 1000 → Rw (k + 3) r3 → As (bif !(g == 0) then (m_spec_l1DrawText r3).bind fun val => bif decide (nI (ByteArray.size val.1.1) > 100) then bif decide (100 ≤ nI (ByteArray.size val.1.1)) then bif decide ((l.length + [((key, Ad val.1.1 0 100, g == 0, ()) : Chg)].length) * 40 ≤ 140737488355328) then Am m n (IntKind.i64.wrap ((i : Int) + 1)) val.2.1 (l ++ [(key, Ad val.1.1 0 100, g == 0, ())]) else none else none
     else bif decide ((l.length + [((key, val.1.1, g == 0, ()) : Chg)].length) * 40 ≤ 140737488355328) then Am m n (IntKind.i64.wrap ((i : Int) + 1)) val.2.1 (l ++ [(key, val.1.1, g == 0, ())]) else none
     else bif decide ((l.length + [((key, ByteArray.mk #[], g == 0, ()) : Chg)].length) * 40 ≤ 140737488355328) then Am m n (IntKind.i64.wrap ((i : Int) + 1)) r3 (l ++ [(key, ByteArray.mk #[], g == 0, ())]) else none) fun q => Rw (k + 15 * (n - i)) q.1 ∧ q.2.1.length = n ∧ ∀ c ∈ q.2.1, W6 c := fun key r3 hkey h3 => by
    refine As.cond (fun _ => ?_) fun _ => fin _ _ ⟨hkey, Nat.zero_le _⟩ (h3.mono (by omega))
    refine As.bind (Ag7 h3 (by omega)) fun q hq => ?_
    refine As.cond (fun c => ?_) fun c => fin _ _ ⟨hkey, by show q.1.1.size ≤ 1000; omega⟩ (hq.2.mono (by omega))
    exfalso
    have c := of_decide_eq_true c
    simp only [nI] at c
    omega
   refine As.cond (fun _ => ?_) fun _ => val _ r2 (by rw [k1]; decide) (h2.mono (by omega))
   refine A2 h2 (by omega) (by omega) fun w r3 w0 w1 h3 => ?_
   dsimp only
   refine As.letter w0 w1 fun s2 => ?_
   generalize Ad (Ad (ByteArray.mk #[120, 121, 122]) w (nI (ByteArray.mk #[120, 121, 122]).size)) 0 1 = c2 at *
   refine As.go (decide_eq_true (by rw [s2, k1]; decide)) ?_
   exact val _ r3 (by rw [ByteArray.size_append, s2, k1]; decide) (h3.mono (by omega))
  ·have : i = n := by have := of_decide_eq_false c; omega
   subst this
   exact As.some ⟨hr.mono (by omega), hl, hc⟩
theorem Afv {k : Nat} {r : Rd} (h : Rw k r) (hk : k + 400 < 1099511627776) : As (m_spec_l4DrawBatch r) fun q => (1 ≤ q.1.1.length ∧ q.1.1.length ≤ 20 ∧ ∀ c ∈ q.1.1, W6 c) ∧ Rw (k + 400) q.2.1 := by
 rw [Hz]
 unfold Du
 refine A2 h (by omega) (by omega) fun v r1 v0 v1 h1 => ?_
 dsimp only
 refine A2 h1 (by omega) (by omega) fun w r2 w0 w1 h2 => ?_
 dsimp only
 have fin : ∀ (n : Nat) (x : Int) (r3 : Rd), x = (n : Int) → 1 ≤ n → n ≤ 20 → Rw (k + 3) r3 → As ((Am (Br x 0 r3 []) x 0 r3 []).bind fun val => some ((val.2.1, ()), val.1, ())) fun q => (1 ≤ q.1.1.length ∧ q.1.1.length ≤ 20 ∧ ∀ c ∈ q.1.1, W6 c) ∧ Rw (k + 400) q.2.1 := fun n x r3 hx n1 n2 h3 => by
  subst hx
  refine As.bind (Wd n n2 _ 0 (k + 3) r3 [] (by simp only [Br]; omega) (by omega) rfl (fun c hc => by cases hc) h3 (by omega)) fun q hq => As.some ⟨⟨by show 1 ≤ q.2.1.length; omega, by show q.2.1.length ≤ 20; omega, hq.2.2⟩, hq.1.mono (by omega)⟩
 refine As.cond (fun _ => ?_) fun _ => ?_
 ·refine A2 h2 (by omega) (by omega) fun u r3 u0 u1 h3 => ?_
  dsimp only
  exact fin (20 - u).toNat _ r3 (by rw [Ac (by omega) (by omega)]; omega) (by omega) (by omega) h3
 ·exact fin (1 + v).toNat _ r2 (by rw [Ac (by omega) (by omega)]; omega) (by omega) (by omega) (h2.mono (by omega))
noncomputable def Gs {R : Type} (k : Kt R) := (Ph (pa_spec_l4DrawBatch 7) (.exit 0) 2 k)
noncomputable def Iu {R : Type} : Lt R pa_spec_l4DrawBatch := (Ho (pat := pa_spec_l4DrawBatch) 7 (fun d k => (Am (Br d.1 d.2.1 d.2.2.1 d.2.2.2.1) d.1 d.2.1 d.2.2.1 d.2.2.2.1).bind (Gs k)) Lk)
theorem H0 : Az Try.prog ta_spec_l4DrawBatch := B8 ⟨C0, O9, trivial⟩
theorem Ly {R : Type} : Bg Try.prog R 60 1 pa_spec_l4DrawBatch Iu co_spec_l4DrawBatch_7 :=
 Ed (cfg := ⟨ta_spec_l4DrawBatch, 1, 60, pa_spec_l4DrawBatch⟩) 7 [] (fun NX X d => De  NX X d.1 d.2.1 d.2.2.1 d.2.2.2.1) (fun m d => Am m d.1 d.2.1 d.2.2.1 d.2.2.2.1) (fun d => Br d.1 d.2.1 d.2.2.1 d.2.2.2.1) Gs H0 trivial (fun f NX d => by unfold De; simp only [Ay, Ba, Ar, Option.bind_assoc, Option.bind_none, Option.bind_some]) (fun _ _ _ => by kernel_rfl)
theorem Nt : D4 Try.prog 63 sd_spec_l4DrawBatch :=
 B9 (pat := pa_spec_l4DrawBatch) [co_spec_l4DrawBatch_7] Iu H0 ⟨Ly, trivial⟩ Try.func63 (de := fun x => Du x.1) (fun x r h => by have q : m_spec_l4DrawBatch x.1 = some r := h; rw [Hz] at q; exact q) fun _ => by kernel_rfl
def Tf : Sig := ⟨[.bx 154 (.pair (.sl (.int .u8)) (.pair tI .unit))], [none], [.rd .str], [none]⟩
noncomputable def Fo (a0 : (List Int) × Int × Unit) : Option ((((ByteArray) × Unit) × (((List Int) × Int × Unit) × Unit))) :=
 ((Ab a0 3).bind fun val => some ((val.1, ()), val.2, ())).bind fun val => bif val.1.1 == 0 then ((Ab val.2.1 60).bind fun val => some ((val.1, ()), val.2, ())).bind fun val => (m_spec_l1Many (ByteArray.mk #[101, 110, 116, 114, 121]) val.1.1).bind fun val_1 => some (val_1.1, val.2) else (m_spec_l4DrawBatch val.2.1).bind fun val => some ((E5 val.1.1, ()), val.2)
theorem Ll : ∃ f, f = @Fo := ⟨_, rfl⟩
noncomputable def m_spec_l3Entry := Classical.choose Ll
theorem Lm : @m_spec_l3Entry = @Fo := Classical.choose_spec Ll
noncomputable def sd_spec_l3Entry : SD := ⟨Tf, fun x => m_spec_l3Entry x.1⟩
theorem Afw {k : Nat} {r : Rd} (h : Rw k r) (hk : k + 500 < 1099511627776) : As (m_spec_l3Entry r) fun q => q.1.1.size ≤ 4000 ∧ Rw (k + 500) q.2.1 := by
 rw [Lm]
 unfold Fo
 refine A2 h (by omega) (by omega) fun v r1 v0 v1 h1 => ?_
 dsimp only
 refine As.cond (fun _ => ?_) fun _ => As.bind (Afv h1 (by omega)) fun q hq => As.some ⟨O0 q.1.1, hq.2.mono (by omega)⟩
 refine A2 h1 (by omega) (by omega) fun w r2 w0 w1 h2 => ?_
 dsimp only
 refine As.bind (a7 (ByteArray.mk #[101, 110, 116, 114, 121]) w w0 (by omega) (by decide)) fun q hq => As.some ⟨?_, h2.mono (by omega)⟩
 show q.1.1.size ≤ 4000
 rw [hq]
 show 5 * _ ≤ 4000
 omega
theorem Tg : D4 Try.prog 101 sd_spec_l3Entry :=
 B9 (pat := Hj) [] Lk (B8 (l := [(20, sd_spec_FormBatch), (63, sd_spec_l4DrawBatch), (64, sd_spec_l1Rd__pick), (73, sd_spec_l1Many)]) ⟨Qu, Nt, C0, In, trivial⟩) trivial Try.func101 (de := fun x => Fo x.1) (fun x r h => by have q : m_spec_l3Entry x.1 = some r := h; rw [Lm] at q; exact q) fun _ => by kernel_rfl
def Th : Sig := ⟨[.rd (.sl (.int .u8))], [none], [.rd .str, .rd tI, .rd tI, .rd tI], [none, none, none, none]⟩
noncomputable def Fp (a0 : List Int) : Option ((((ByteArray) × (Int) × (Int) × (Int) × Unit) × (Unit))) :=
 (m_spec_l1Open a0).bind fun val => (m_spec_l1DrawWidth val.1.1).bind fun val => (m_spec_l3Entry val.2.1).bind fun val_1 => ((Ab val_1.2.1 4).bind fun val => some ((val.1, ()), val.2, ())).bind fun val_2 => bif val_2.1.1 == 0 then ((Ab val_2.2.1 4).bind fun val => some ((val.1, ()), val.2, ())).bind fun val_3 => ((Ab val_3.2.1 3).bind fun val => some ((val.1, ()), val.2, ())).bind fun val_4 => (m_spec_l1Many (ByteArray.mk #[101]) (IntKind.i64.wrap (IntKind.i64.wrap (IntKind.i64.wrap (IntKind.i64.wrap (IntKind.i64.wrap (64 - val.1.1) - 8) * val_3.1.1) + val_4.1.1) - 1))).bind fun val_5 => ((Ab val_4.2.1 3).bind fun val => some ((val.1, ()), val.2, ())).bind fun val_6 => bif decide (0 ≤ val_6.1.1) then bif decide (val_6.1.1 < nI [1, 7, 60000].length) then ((Ab val_6.2.1 5).bind fun val => some ((val.1, ()), val.2, ())).bind fun val_7 => bif decide (0 ≤ val_7.1.1) then bif decide (val_7.1.1 < nI [1, 500, 1000000000, 999999999, 999999998].length) then ((Ab val_7.2.1 12).bind fun val => some ((val.1, ()), val.2, ())).bind fun val_8 => bif val_8.1.1 == 0 then ((Ab val_8.2.1 2).bind fun val => some ((val.1, ()), val.2, ())).bind fun val_9 => bif decide (0 ≤ val_9.1.1) then bif decide (val_9.1.1 < nI [0, 60001].length) then some ((val_5.1.1, [0, 60001].getD (Int.toNat val_9.1.1) 0, [1, 500, 1000000000, 999999999, 999999998].getD (Int.toNat val_7.1.1) 0, val.1), ()) else none else none else bif val_8.1.1 == 1 then ((Ab val_8.2.1 3).bind fun val => some ((val.1, ()), val.2, ())).bind fun val_9 => bif decide (0 ≤ val_9.1.1) then bif decide (val_9.1.1 < nI [0, -1, 1000000001].length) then some ((val_5.1.1, [1, 7, 60000].getD (Int.toNat val_6.1.1) 0, [0, -1, 1000000001].getD (Int.toNat val_9.1.1) 0, val.1), ()) else none else none else bif val_8.1.1 == 2 then ((Ab val_8.2.1 2).bind fun val => some ((val.1, ()), val.2, ())).bind fun val => bif decide (0 ≤ val.1.1) then bif decide (val.1.1 < nI [0, 9].length) then some ((val_5.1.1, [1, 7, 60000].getD (Int.toNat val_6.1.1) 0, [1, 500, 1000000000, 999999999, 999999998].getD (Int.toNat val_7.1.1) 0, [0, 9].getD (Int.toNat val.1.1) 0, ()), ()) else none else none else some ((val_5.1.1, [1, 7, 60000].getD (Int.toNat val_6.1.1) 0, [1, 500, 1000000000, 999999999, 999999998].getD (Int.toNat val_7.1.1) 0, val.1), ()) else none else none else none else none else ((Ab val_2.2.1 3).bind fun val => some ((val.1, ()), val.2, ())).bind fun val_3 => bif decide (0 ≤ val_3.1.1) then bif decide (val_3.1.1 < nI [1, 7, 60000].length) then ((Ab val_3.2.1 5).bind fun val => some ((val.1, ()), val.2, ())).bind fun val_4 => bif decide (0 ≤ val_4.1.1) then bif decide (val_4.1.1 < nI [1, 500, 1000000000, 999999999, 999999998].length) then ((Ab val_4.2.1 12).bind fun val => some ((val.1, ()), val.2, ())).bind fun val_5 => bif val_5.1.1 == 0 then ((Ab val_5.2.1 2).bind fun val => some ((val.1, ()), val.2, ())).bind fun val_6 => bif decide (0 ≤ val_6.1.1) then bif decide (val_6.1.1 < nI [0, 60001].length) then some ((val_1.1.1, [0, 60001].getD (Int.toNat val_6.1.1) 0, [1, 500, 1000000000, 999999999, 999999998].getD (Int.toNat val_4.1.1) 0, val.1), ()) else none else none else bif val_5.1.1 == 1 then ((Ab val_5.2.1 3).bind fun val => some ((val.1, ()), val.2, ())).bind fun val_6 => bif decide (0 ≤ val_6.1.1) then bif decide (val_6.1.1 < nI [0, -1, 1000000001].length) then some ((val_1.1.1, [1, 7, 60000].getD (Int.toNat val_3.1.1) 0, [0, -1, 1000000001].getD (Int.toNat val_6.1.1) 0, val.1), ()) else none else none else bif val_5.1.1 == 2 then ((Ab val_5.2.1 2).bind fun val => some ((val.1, ()), val.2, ())).bind fun val => bif decide (0 ≤ val.1.1) then bif decide (val.1.1 < nI [0, 9].length) then some ((val_1.1.1, [1, 7, 60000].getD (Int.toNat val_3.1.1) 0, [1, 500, 1000000000, 999999999, 999999998].getD (Int.toNat val_4.1.1) 0, [0, 9].getD (Int.toNat val.1.1) 0, ()), ()) else none else none else some ((val_1.1.1, [1, 7, 60000].getD (Int.toNat val_3.1.1) 0, [1, 500, 1000000000, 999999999, 999999998].getD (Int.toNat val_4.1.1) 0, val.1), ()) else none else none else none else none
theorem Ln : ∃ f, f = @Fp := ⟨_, rfl⟩
noncomputable def m_spec_DrawCut := Classical.choose Ln
theorem Lo : @m_spec_DrawCut = @Fp := Classical.choose_spec Ln
noncomputable def sd_spec_DrawCut : SD := ⟨Th, fun x => m_spec_DrawCut x.1⟩
theorem Aie (b : List Int) (h : N0 (.sl (.int .u8)) b) : As (m_spec_DrawCut b) fun q => q.1.1.size ≤ 4000 ∧ (-10 ≤ q.1.2.1 ∧ q.1.2.1 ≤ 100000) ∧ (-10 ≤ q.1.2.2.1 ∧ q.1.2.2.1 ≤ 2000000000) ∧ (-10 ≤ q.1.2.2.2.1 ∧ q.1.2.2.2.1 ≤ 10) := by
 rw [Lo]
 unfold Fp
 refine As.bind (Ag5 b h) fun q hq => ?_
 refine As.bind (Afu hq (by omega)) fun q2 hq2 => ?_
 obtain ⟨⟨w, ⟨⟩⟩, r2, ⟨⟩⟩ := q2
 obtain ⟨⟨w0, w1⟩, h2⟩ := hq2
 dsimp only at w0 w1 h2 ⊢
 refine As.bind (Afw h2 (by omega)) fun q3 hq3 => ?_
 obtain ⟨⟨e, ⟨⟩⟩, r3, ⟨⟩⟩ := q3
 obtain ⟨he, h3⟩ := hq3
 dsimp only at he h3 ⊢
 refine A2 h3 (by omega) (by omega) fun v r4 v0 v1 h4 => ?_
 dsimp only
 refine As.cond (fun _ => ?_) fun _ => ?_
 ·refine A2 h4 (by omega) (by omega) fun a r5 a0 a1 h5 => ?_
  dsimp only
  refine A2 h5 (by omega) (by omega) fun c r6 c0 c1 h6 => ?_
  dsimp only
  have hm : 0 ≤ (56 - w) * a ∧ (56 - w) * a ≤ 55 * 3 := ⟨Int.mul_nonneg (by omega) a0, Int.mul_le_mul (by omega) (by omega) a0 (by omega)⟩
  have ew : IntKind.i64.wrap (IntKind.i64.wrap (IntKind.i64.wrap (IntKind.i64.wrap (IntKind.i64.wrap (64 - w) - 8) * a) + c) - 1) = (56 - w) * a + c - 1 := by
   rw [Ac (n := 64 - w) (by omega) (by omega), Ac (n := 64 - w - 8) (by omega) (by omega), show 64 - w - 8 = 56 - w by omega, Ac (n := (56 - w) * a) (by omega) (by omega), Ac (n := (56 - w) * a + c) (by omega) (by omega), Ac (by omega) (by omega)]
  rw [ew]
  have hd : As (m_spec_l1Many (ByteArray.mk #[101]) ((56 - w) * a + c - 1)) fun q => q.1.1.size ≤ 4000 := by
   have hb : -1 ≤ (56 - w) * a + c - 1 ∧ (56 - w) * a + c - 1 ≤ 200 := by omega
   generalize (56 - w) * a + c - 1 = n at hb ⊢
   by_cases hn : 0 ≤ n
   ·refine (a7 (ByteArray.mk #[101]) n hn (by omega) (by decide)).mono fun q hq => ?_
    rw [hq]
    show 1 * _ ≤ 4000
    omega
   ·rw [Im]
    unfold Es
    have : n = -1 := by omega
    subst this
    exact ⟨_, rfl, by decide⟩
  refine As.bind hd fun q4 hq4 => ?_
  obtain ⟨⟨e2, ⟨⟩⟩, ⟨⟩⟩ := q4
  dsimp only at hq4 ⊢
  refine A2 h6 (by omega) (by omega) fun x1 s1 x10 x11 i1 => ?_
  dsimp only
  have l1 : (1 : Int) ≤ ([1, 7, 60000] : List Int).getD x1.toNat 0 ∧ ([1, 7, 60000] : List Int).getD x1.toNat 0 ≤ 60000 := Il (l := [1, 7, 60000]) (Q := fun x : Int => 1 ≤ x ∧ x ≤ 60000) (by decide) x10 x11
  refine As.go (decide_eq_true x10) (As.go (decide_eq_true x11) ?_)
  refine A2 i1 (by omega) (by omega) fun x2 s2 x20 x21 i2 => ?_
  dsimp only
  have l2 : (1 : Int) ≤ ([1, 500, 1000000000, 999999999, 999999998] : List Int).getD x2.toNat 0 ∧ ([1, 500, 1000000000, 999999999, 999999998] : List Int).getD x2.toNat 0 ≤ 1000000000 := Il (l := [1, 500, 1000000000, 999999999, 999999998]) (Q := fun x : Int => 1 ≤ x ∧ x ≤ 1000000000) (by decide) x20 x21
  refine As.go (decide_eq_true x20) (As.go (decide_eq_true x21) ?_)
  refine A2 i2 (by omega) (by omega) fun x3 s3 x30 x31 i3 => ?_
  dsimp only
  refine As.cond (fun _ => ?_) fun _ => As.cond (fun _ => ?_) fun _ => As.cond (fun _ => ?_) fun _ => As.some ⟨hq4, ⟨by dsimp only; omega, by dsimp only; omega⟩, ⟨by dsimp only; omega, by dsimp only; omega⟩, ⟨by dsimp only; omega, by dsimp only; omega⟩⟩
  ·refine A2 i3 (by omega) (by omega) fun x4 s4 x40 x41 i4 => ?_
   dsimp only
   have l3 : (0 : Int) ≤ ([0, 60001] : List Int).getD x4.toNat 0 ∧ ([0, 60001] : List Int).getD x4.toNat 0 ≤ 60001 := Il (l := [0, 60001]) (Q := fun x : Int => 0 ≤ x ∧ x ≤ 60001) (by decide) x40 x41
   exact As.go (decide_eq_true x40) (As.go (decide_eq_true x41) (As.some ⟨hq4, ⟨by dsimp only; omega, by dsimp only; omega⟩, ⟨by dsimp only; omega, by dsimp only; omega⟩, ⟨by dsimp only; omega, by dsimp only; omega⟩⟩))
  ·refine A2 i3 (by omega) (by omega) fun x4 s4 x40 x41 i4 => ?_
   dsimp only
   have l3 : (-1 : Int) ≤ ([0, -1, 1000000001] : List Int).getD x4.toNat 0 ∧ ([0, -1, 1000000001] : List Int).getD x4.toNat 0 ≤ 1000000001 := Il (l := [0, -1, 1000000001]) (Q := fun x : Int => -1 ≤ x ∧ x ≤ 1000000001) (by decide) x40 x41
   exact As.go (decide_eq_true x40) (As.go (decide_eq_true x41) (As.some ⟨hq4, ⟨by dsimp only; omega, by dsimp only; omega⟩, ⟨by dsimp only; omega, by dsimp only; omega⟩, ⟨by dsimp only; omega, by dsimp only; omega⟩⟩))
  ·refine A2 i3 (by omega) (by omega) fun x4 s4 x40 x41 i4 => ?_
   dsimp only
   have l3 : (0 : Int) ≤ ([0, 9] : List Int).getD x4.toNat 0 ∧ ([0, 9] : List Int).getD x4.toNat 0 ≤ 9 := Il (l := [0, 9]) (Q := fun x : Int => 0 ≤ x ∧ x ≤ 9) (by decide) x40 x41
   exact As.go (decide_eq_true x40) (As.go (decide_eq_true x41) (As.some ⟨hq4, ⟨by dsimp only; omega, by dsimp only; omega⟩, ⟨by dsimp only; omega, by dsimp only; omega⟩, ⟨by dsimp only; omega, by dsimp only; omega⟩⟩))
 ·have h6 : Rw 600 r4 := h4.mono (by omega)
  refine A2 h6 (by omega) (by omega) fun x1 s1 x10 x11 i1 => ?_
  dsimp only
  have l1 : (1 : Int) ≤ ([1, 7, 60000] : List Int).getD x1.toNat 0 ∧ ([1, 7, 60000] : List Int).getD x1.toNat 0 ≤ 60000 := Il (l := [1, 7, 60000]) (Q := fun x : Int => 1 ≤ x ∧ x ≤ 60000) (by decide) x10 x11
  refine As.go (decide_eq_true x10) (As.go (decide_eq_true x11) ?_)
  refine A2 i1 (by omega) (by omega) fun x2 s2 x20 x21 i2 => ?_
  dsimp only
  have l2 : (1 : Int) ≤ ([1, 500, 1000000000, 999999999, 999999998] : List Int).getD x2.toNat 0 ∧ ([1, 500, 1000000000, 999999999, 999999998] : List Int).getD x2.toNat 0 ≤ 1000000000 := Il (l := [1, 500, 1000000000, 999999999, 999999998]) (Q := fun x : Int => 1 ≤ x ∧ x ≤ 1000000000) (by decide) x20 x21
  refine As.go (decide_eq_true x20) (As.go (decide_eq_true x21) ?_)
  refine A2 i2 (by omega) (by omega) fun x3 s3 x30 x31 i3 => ?_
  dsimp only
  refine As.cond (fun _ => ?_) fun _ => As.cond (fun _ => ?_) fun _ => As.cond (fun _ => ?_) fun _ => As.some ⟨he, ⟨by dsimp only; omega, by dsimp only; omega⟩, ⟨by dsimp only; omega, by dsimp only; omega⟩, ⟨by dsimp only; omega, by dsimp only; omega⟩⟩
  ·refine A2 i3 (by omega) (by omega) fun x4 s4 x40 x41 i4 => ?_
   dsimp only
   have l3 : (0 : Int) ≤ ([0, 60001] : List Int).getD x4.toNat 0 ∧ ([0, 60001] : List Int).getD x4.toNat 0 ≤ 60001 := Il (l := [0, 60001]) (Q := fun x : Int => 0 ≤ x ∧ x ≤ 60001) (by decide) x40 x41
   exact As.go (decide_eq_true x40) (As.go (decide_eq_true x41) (As.some ⟨he, ⟨by dsimp only; omega, by dsimp only; omega⟩, ⟨by dsimp only; omega, by dsimp only; omega⟩, ⟨by dsimp only; omega, by dsimp only; omega⟩⟩))
  ·refine A2 i3 (by omega) (by omega) fun x4 s4 x40 x41 i4 => ?_
   dsimp only
   have l3 : (-1 : Int) ≤ ([0, -1, 1000000001] : List Int).getD x4.toNat 0 ∧ ([0, -1, 1000000001] : List Int).getD x4.toNat 0 ≤ 1000000001 := Il (l := [0, -1, 1000000001]) (Q := fun x : Int => -1 ≤ x ∧ x ≤ 1000000001) (by decide) x40 x41
   exact As.go (decide_eq_true x40) (As.go (decide_eq_true x41) (As.some ⟨he, ⟨by dsimp only; omega, by dsimp only; omega⟩, ⟨by dsimp only; omega, by dsimp only; omega⟩, ⟨by dsimp only; omega, by dsimp only; omega⟩⟩))
  ·refine A2 i3 (by omega) (by omega) fun x4 s4 x40 x41 i4 => ?_
   dsimp only
   have l3 : (0 : Int) ≤ ([0, 9] : List Int).getD x4.toNat 0 ∧ ([0, 9] : List Int).getD x4.toNat 0 ≤ 9 := Il (l := [0, 9]) (Q := fun x : Int => 0 ≤ x ∧ x ≤ 9) (by decide) x40 x41
   exact As.go (decide_eq_true x40) (As.go (decide_eq_true x41) (As.some ⟨he, ⟨by dsimp only; omega, by dsimp only; omega⟩, ⟨by dsimp only; omega, by dsimp only; omega⟩, ⟨by dsimp only; omega, by dsimp only; omega⟩⟩))
theorem Ti : D4 Try.prog 38 sd_spec_DrawCut :=
 B9 (pat := Hj) [] Lk (B8 (l := [(62, sd_spec_l1Open), (64, sd_spec_l1Rd__pick), (73, sd_spec_l1Many), (75, sd_spec_l1DrawWidth), (77, sd_spec_l1Part), (101, sd_spec_l3Entry)]) ⟨V9, C0, In, Nq, Io, Tg, trivial⟩) trivial Try.func38 (de := fun x => Fp x.1) (fun x r h => by have q : m_spec_DrawCut x.1 = some r := h; rw [Lo] at q; exact q) fun _ => by kernel_rfl
def B2 (s : ByteArray) (w : Int) : Option Int := if s.size ≤ 1099511627776 then some (Cl s.size w) else none
def W9 : Sig := ⟨[.rd .str, .rd tI], [none, none], [.rd tI], [none]⟩
noncomputable def sd_impl_Pages : SD := ⟨W9, fun x => (B2 x.1 x.2.1).bind fun r => some ((r, ()), (()))⟩
noncomputable def Jw (a0 : ByteArray) (a1 : Int) : Option ((((Int) × Unit) × (Unit))) :=
 bif !Bp a1 1 8 then some ((0, ()), ()) else bif !decide (IntKind.i64.wrap (IntKind.i64.wrap (64 - a1) - 8) = 0) then some ((if IntKind.i64.wrap ((IntKind.i64.wrap (IntKind.i64.wrap (nI a0.size + IntKind.i64.wrap (IntKind.i64.wrap (64 - a1) - 8)) - 1)).tdiv (IntKind.i64.wrap (IntKind.i64.wrap (64 - a1) - 8))) > 1 then IntKind.i64.wrap ((IntKind.i64.wrap (IntKind.i64.wrap (nI a0.size + IntKind.i64.wrap (IntKind.i64.wrap (64 - a1) - 8)) - 1)).tdiv (IntKind.i64.wrap (IntKind.i64.wrap (64 - a1) - 8))) else 1, ()), ()) else none
theorem Xa (a0 : ByteArray) (a1 : Int) r (h : B2 a0 a1 = some r) : Jw a0 a1 = some ((r, ()), (())) := by
 unfold B2 at h
 split at h
 ·rename_i hc
  cases h
  unfold Jw Cl
  show (bif !Cb a1 1 8 then _ else _) = _
  cases hw : Cb a1 1 8 with
  | false => rfl
  | true =>
   have k1 := (Ei hw).1
   have k2 := (Ei hw).2
   have hq : 0 ≤ ((a0.size : Int) + (56 - a1) - 1) / (56 - a1) := Int.ediv_nonneg (by omega) (by omega)
   have hq2 : ((a0.size : Int) + (56 - a1) - 1) / (56 - a1) ≤ (a0.size : Int) + (56 - a1) - 1 := Int.ediv_le_self _ (by omega)
   rw [Ac (n := 64 - a1) (by omega) (by omega), Ac (n := 64 - a1 - 8) (by omega) (by omega), show 64 - a1 - 8 = 56 - a1 by omega]
   simp only [nI]
   rw [Ac (n := (a0.size : Int) + (56 - a1)) (by omega) (by omega), Ac (n := (a0.size : Int) + (56 - a1) - 1) (by omega) (by omega), Int.tdiv_eq_ediv_of_nonneg (by omega), Ac (n := ((a0.size : Int) + (56 - a1) - 1) / (56 - a1)) (by omega) (by omega), decide_eq_false (show ¬ (56 - a1 = 0) by omega)]
   rfl
 ·cases h
theorem N5 : D4 Try.prog 42 sd_impl_Pages :=
 B9 (pat := Hj) [] Lk (B8 (l := [(83, sd_impl_in), (84, sd_impl_room)]) ⟨Ea, H4, trivial⟩) trivial Try.func42 (de := fun x => Jw x.1 x.2.1) (fun x r h => D6 (Xa x.1 x.2.1) h) fun _ => by kernel_rfl
def C1 (e : ByteArray) (life first w : Int) : Option (List ByteArray) := if e.size ≤ 1048576 then some (Lw e life first w) else none
def Ef (v0 : ByteArray) (v1 v2 v3 v9 v11 : Int) (r0 : List ByteArray) : Nat := (v9 - v11).toNat + 1
def s7 : Sig := ⟨[.rd .str, .rd tI, .rd tI, .rd tI], [none, none, none, none], [.own 9 .str], [none]⟩
noncomputable def sd_impl_Cut : SD := ⟨s7, fun x => (C1 x.1 x.2.1 x.2.2.1 x.2.2.2.1).bind fun r => some ((r, ()), (()))⟩
noncomputable def ta_impl_Cut : Tb := tb [(27, sd_impl_FormPage), (42, sd_impl_Pages), (83, sd_impl_in), (84, sd_impl_room)]
def pa_impl_Cut : Nat → Pat × (Nat → Pat) := I4 [(7, ⟨[.row 10 0 9 .str], [(0, .lf (.d .str)), (1, .lf (.d tI)), (2, .lf (.d tI)), (3, .lf (.d tI)), (9, .lf (.d tI)), (10, .lf (.row 0)), (11, .lf (.d tI))], [.row 9 .str]⟩, [(2, ⟨[.row 10 0 9 .str], [(10, .lf (.row 0))], [.row 9 .str]⟩)])]
noncomputable def co_impl_Cut_7 : Code := (Aw (Cf Try.f39)).getD 0 .skip
noncomputable def Fe {R : Type}  (NX : ((ByteArray) × (Int) × (Int) × (Int) × (Int) × (Int) × (List ByteArray) × Unit) → Option R) (X2 : ((List ByteArray) × Unit) → Option R) (v0 : ByteArray) (v1 : Int) (v2 : Int) (v3 : Int) (v9 : Int) (v11 : Int) (r0 : List ByteArray) : Option R :=
 bif decide (v11 < v9) then bif v11 == IntKind.i64.wrap (v9 - 1) then bif decide ((r0.length + [Bv (2, v1, IntKind.i64.wrap (v2 + v11), v0, ()) v3].length) * 16 ≤ 140737488355328) then NX (v0, v1, v2, v3, v9, IntKind.i64.wrap (v11 + 1), r0 ++ [Bv (2, v1, IntKind.i64.wrap (v2 + v11), v0, ()) v3], ()) else none else bif decide (0 ≤ IntKind.i64.wrap (IntKind.i64.wrap (64 - v3) - 8)) then bif decide (IntKind.i64.wrap (IntKind.i64.wrap (64 - v3) - 8) ≤ nI v0.size) then bif decide (0 ≤ IntKind.i64.wrap (IntKind.i64.wrap (64 - v3) - 8)) then bif decide (IntKind.i64.wrap (IntKind.i64.wrap (64 - v3) - 8) ≤ nI v0.size) then bif decide ((r0.length + [Bv (1, v1, IntKind.i64.wrap (v2 + v11), Ad v0 0 (IntKind.i64.wrap (IntKind.i64.wrap (64 - v3) - 8)), ()) v3].length) * 16 ≤ 140737488355328) then NX (Ad v0 (IntKind.i64.wrap (IntKind.i64.wrap (64 - v3) - 8)) (nI v0.size), v1, v2, v3, v9, IntKind.i64.wrap (v11 + 1), r0 ++ [Bv (1, v1, IntKind.i64.wrap (v2 + v11), Ad v0 0 (IntKind.i64.wrap (IntKind.i64.wrap (64 - v3) - 8)), ()) v3], ()) else none else none else none else none else none else X2 (r0, ())
noncomputable def Cj : Nat → (ByteArray) → (Int) → (Int) → (Int) → (Int) → (Int) → (List ByteArray) →  Option ((List ByteArray) × Unit)
 | 0, _, _, _, _, _, _, _ => none
 | m + 1, v0, v1, v2, v3, v9, v11, r0 => Fe  (fun d => Cj m d.1 d.2.1 d.2.2.1 d.2.2.2.1 d.2.2.2.2.1 d.2.2.2.2.2.1 d.2.2.2.2.2.2.1) (fun d => some (d)) v0 v1 v2 v3 v9 v11 r0
noncomputable def Mx (a0 : ByteArray) (a1 : Int) (a2 : Int) (a3 : Int) : Option ((((List ByteArray) × Unit) × (Unit))) :=
 ((B2 a0 a3).bind fun val => some ((val, ()), ())).bind fun val => bif val.1.1 == 0 then some (([], ()), ()) else bif !Bp a1 1 60000 then some (([], ()), ()) else bif decide (a2 < 1) then some (([], ()), ()) else bif decide (a2 > IntKind.i64.wrap (IntKind.i64.wrap (1000000000 - val.1.1) + 1)) then some (([], ()), ()) else ((fun d => Cj (Ef d.1 d.2.1 d.2.2.1 d.2.2.2.1 d.2.2.2.2.1 d.2.2.2.2.2.1 d.2.2.2.2.2.2.1) d.1 d.2.1 d.2.2.1 d.2.2.2.1 d.2.2.2.2.1 d.2.2.2.2.2.1 d.2.2.2.2.2.2.1) (a0, a1, a2, a3, val.1.1, 0, [], ())).bind fun val => some (val, ())
theorem Afx (life first w : Int) (n N : Nat) (hn : 56 - w = (n : Int)) (hw1 : 1 ≤ w) (hw8 : w ≤ 8) (hf1 : 1 ≤ first) (hf2 : first ≤ 1000000000) (hN : N ≤ 2000000) : ∀ (f m i : Nat) (s : ByteArray) (r : List ByteArray), s.size ≤ f → i + (Bb n f s).length = N → (Bb n f s).length < m → r.length = i →
  Cj m s life first w N i r = some (r ++ Ep life w (first + (i : Int)) (Bb n f s), ()) := by
 have one : ∀ (m i : Nat) (s : ByteArray) (r : List ByteArray), i + 1 = N → 1 < m → r.length = i → Cj m s life first w N i r = some (r ++ Ep life w (first + (i : Int)) [s], ()) := by
  intro m i s r hi hm hr
  obtain ⟨m, rfl⟩ : ∃ k, m = k + 2 := ⟨m - 2, by omega⟩
  simp only [Cj, Fe]
  rw [decide_eq_true (show (i : Int) < (N : Int) by omega), Ac (n := (N : Int) - 1) (by omega) (by omega), show (N : Int) - 1 = (i : Int) by omega, beq_self_eq_true, Ac (n := first + (i : Int)) (by omega) (by omega), Ac (n := (i : Int) + 1) (by omega) (by omega), List.length_singleton, decide_eq_true (show (r.length + 1) * 16 ≤ 140737488355328 by omega), decide_eq_false (show ¬ ((i : Int) + 1 < (N : Int)) by omega)]
  rfl
 intro f
 induction f with
 | zero =>
  intro m i s r hs hi hm hr
  exact one m i s r hi hm hr
 | succ f ih =>
  intro m i s r hs hi hm hr
  by_cases q : s.size > n
  ·simp only [Bb, if_pos q, List.length_cons] at hi hm ⊢
   have hc : (Ad s n (nI s.size)).size = s.size - n := by rw [D8 (by omega) (by simp only [nI]; omega) (by simp [nI])]; simp only [nI]; omega
   obtain ⟨m, rfl⟩ : ∃ k, m = k + 1 := ⟨m - 1, by omega⟩
   have hL : 1 ≤ (Bb n f (Ad s n (nI s.size))).length := by
    cases f with
    | zero => simp [Bb]
    | succ f => unfold Bb; split <;> simp
   have ih := ih m (i + 1) (Ad s n (nI s.size)) (r ++ [A8 (1, life, first + (i : Int), Ad s 0 n, ()) w]) (by omega) (by omega) (by omega) (by rw [List.length_append, List.length_singleton, hr])
   simp only [Cj, Fe]
   rw [decide_eq_true (show (i : Int) < (N : Int) by omega), Ac (n := (N : Int) - 1) (by omega) (by omega), beq_eq_false_iff_ne.2 (show (i : Int) ≠ (N : Int) - 1 by omega), Ac (n := first + (i : Int)) (by omega) (by omega), wI (show i < 4611686018427387904 by omega), Ac (n := 64 - w) (by omega) (by omega), Ac (n := 64 - w - 8) (by omega) (by omega), show 64 - w - 8 = (n : Int) by omega, decide_eq_true (show (0 : Int) ≤ (n : Int) by omega), decide_eq_true (show (n : Int) ≤ nI s.size by simp only [nI]; omega), List.length_singleton, List.length_singleton, decide_eq_true (show (r.length + 1) * 16 ≤ 140737488355328 by omega)]
   refine Eq.trans ih ?_
   rw [List.append_assoc, show first + ((i + 1 : Nat) : Int) = first + (i : Int) + 1 by omega]
   generalize Bb n f (Ad s n (nI s.size)) = L at *
   cases L with
   | nil => simp at hL
   | cons a b => rfl
  ·simp only [Bb, if_neg q, List.length_singleton] at hi hm ⊢
   exact one m i s r hi hm hr
theorem s8 (a0 : ByteArray) (a1 : Int) (a2 : Int) (a3 : Int) r (h : C1 a0 a1 a2 a3 = some r) : Mx a0 a1 a2 a3 = some ((r, ()), (())) := by
 unfold C1 at h
 split at h
 rotate_left
 ·cases h
 rename_i hc
 cases h
 have n1 : B2 a0 a3 = some (Cl a0.size a3) := if_pos (by omega)
 unfold Mx Lw
 refine Sz (Sz n1 rfl) ?_
 show (bif Cl a0.size a3 == 0 then _ else (bif !Cb a1 1 60000 then _ else _)) = _
 cases hw : Cb a3 1 8 with
 | false =>
  have : Cl a0.size a3 = 0 := by unfold Cl; rw [hw]; rfl
  rw [this]
  rfl
 | true =>
  obtain ⟨k1, k2⟩ := Ei hw
  have hp := G2 (s := a0) hw
  have hP : Cl a0.size a3 = ((Ag a0 a3).length : Int) := by unfold Cl; rw [hw]; exact hp.symm
  have hlen : (Ag a0 a3).length ≤ a0.size + 1 := Jg _ _ _
  have h1 : 1 ≤ (Ag a0 a3).length := by
   have : (1 : Int) ≤ ((Ag a0 a3).length : Int) := by rw [hp]; split <;> omega
   omega
  rw [hP, beq_eq_false_iff_ne.2 (show ((Ag a0 a3).length : Int) ≠ 0 by omega)]
  cases hl : Cb a1 1 60000 with
  | false => rfl
  | true =>
   show (bif decide (a2 < 1) then _ else (bif decide (a2 > IntKind.i64.wrap (IntKind.i64.wrap (1000000000 - ((Ag a0 a3).length : Int)) + 1)) then _ else (Option.bind (Cj (Ef a0 a1 a2 a3 ((Ag a0 a3).length : Int) 0 []) a0 a1 a2 a3 ((Ag a0 a3).length : Int) 0 []) _))) = _
   rw [Ac (n := 1000000000 - ((Ag a0 a3).length : Int)) (by omega) (by omega), Ac (n := 1000000000 - ((Ag a0 a3).length : Int) + 1) (by omega) (by omega)]
   by_cases q1 : a2 < 1
   ·rw [decide_eq_true q1, decide_eq_false (show ¬ 1 ≤ a2 by omega)]; rfl
   ·rw [decide_eq_false q1, decide_eq_true (show 1 ≤ a2 by omega)]
    by_cases q2 : a2 > 1000000000 - ((Ag a0 a3).length : Int) + 1
    ·rw [decide_eq_true q2, decide_eq_false (show ¬ a2 ≤ 1000000000 - ((Ag a0 a3).length : Int) + 1 by omega)]; rfl
    ·rw [decide_eq_false q2, decide_eq_true (show a2 ≤ 1000000000 - ((Ag a0 a3).length : Int) + 1 by omega)]
     obtain ⟨n, hn⟩ : ∃ n : Nat, 56 - a3 = (n : Int) := ⟨(56 - a3).toNat, by omega⟩
     have hS : Ag a0 a3 = Bb n a0.size a0 := by unfold Ag; rw [hn, Int.toNat_natCast]
     have hL := Afx a1 a2 a3 n (Ag a0 a3).length hn k1 k2 (by omega) (by omega) (by omega) a0.size (Ef a0 a1 a2 a3 ((Ag a0 a3).length : Int) 0 []) 0 a0 [] (Nat.le_refl _) (by rw [← hS]; omega) (by rw [← hS]; simp only [Ef]; omega) rfl
     rw [← hS, List.nil_append, show a2 + ((0 : Nat) : Int) = a2 by omega] at hL
     exact Sz hL rfl
noncomputable def N6 {R : Type} (k : Kt R) := (Ph (pa_impl_Cut 7) (.exit 0) 2 k)
noncomputable def We {R : Type} : Lt R pa_impl_Cut := (Ho (pat := pa_impl_Cut) 7 (fun d k => (Cj (Ef d.1 d.2.1 d.2.2.1 d.2.2.2.1 d.2.2.2.2.1 d.2.2.2.2.2.1 d.2.2.2.2.2.2.1) d.1 d.2.1 d.2.2.1 d.2.2.2.1 d.2.2.2.2.1 d.2.2.2.2.2.1 d.2.2.2.2.2.2.1).bind (N6 k)) Lk)
theorem S3 : Az Try.prog ta_impl_Cut := B8 ⟨G7, N5, Ea, H4, trivial⟩
theorem Xb {R : Type} : Bg Try.prog R 67 0 pa_impl_Cut We co_impl_Cut_7 :=
 Ed (cfg := ⟨ta_impl_Cut, 0, 67, pa_impl_Cut⟩) 7 [] (fun NX X d => Fe  NX X d.1 d.2.1 d.2.2.1 d.2.2.2.1 d.2.2.2.2.1 d.2.2.2.2.2.1 d.2.2.2.2.2.2.1) (fun m d => Cj m d.1 d.2.1 d.2.2.1 d.2.2.2.1 d.2.2.2.2.1 d.2.2.2.2.2.1 d.2.2.2.2.2.2.1) (fun d => Ef d.1 d.2.1 d.2.2.1 d.2.2.2.1 d.2.2.2.2.1 d.2.2.2.2.2.1 d.2.2.2.2.2.2.1) N6 S3 trivial (fun f NX d => by unfold Fe; simp only [Ay, Ba, Ar, Option.bind_assoc, Option.bind_none, Option.bind_some]) (fun _ _ _ => by kernel_rfl)
theorem s9 : D4 Try.prog 39 sd_impl_Cut :=
 B9 (pat := pa_impl_Cut) [co_impl_Cut_7] We S3 ⟨Xb, trivial⟩ Try.func39 (de := fun x => Mx x.1 x.2.1 x.2.2.1 x.2.2.2.1) (fun x r h => D6 (s8 x.1 x.2.1 x.2.2.1 x.2.2.2.1) h) fun _ => by kernel_rfl
def Bt (a b : List ByteArray) : Option Bool := if a.length ≤ 1073741824 then some (eqL eqS a b) else none
def Wf : Sig := ⟨[.rd (.sl .str), .rd (.sl .str)], [none, none], [.rd .bool], [none]⟩
noncomputable def sd_laws_wTexts : SD := ⟨Wf, fun x => (Bt x.1 x.2.1).bind fun r => some ((r, ()), (()))⟩
noncomputable def ta_laws_wTexts : Tb := tb []
def pa_laws_wTexts : Nat → Pat × (Nat → Pat) := I4 [(5, ⟨[.sl 0 0 .str, .sl 1 0 .str], [(0, .lf (.d (.sl .str))), (1, .lf (.d (.sl .str))), (5, .lf (.d tI))], []⟩, [(2, p0), (1, ⟨[], [(4, .lf (.d .bool))], []⟩)])]
noncomputable def co_laws_wTexts_5 : Code := (Aw (Cf Try.f40)).getD 0 .skip
def Dx (v0 : List ByteArray) (v1 : List ByteArray) (v5 : Int) : Nat := ((v0.length : Int) - v5).toNat + 1
noncomputable def Dy {R : Type}  (NX : ((List ByteArray) × (List ByteArray) × (Int) × Unit) → Option R) (X2 : (Unit) → Option R) (X1 : ((Bool) × Unit) → Option R) (v0 : List ByteArray) (v1 : List ByteArray) (v5 : Int) : Option R :=
 bif decide (v5 < nI v0.length) then bif decide (0 ≤ v5) then bif decide (v5 < nI v0.length) then bif decide (0 ≤ v5) then bif decide (v5 < nI v1.length) then bif !ByteArray.toList (v0.getD v5.toNat (ByteArray.mk #[])) == ByteArray.toList (v1.getD v5.toNat (ByteArray.mk #[])) then X1 (false, ()) else NX (v0, v1, IntKind.i64.wrap (v5 + 1), ()) else none else none else none else none else X2 PUnit.unit
noncomputable def Bh : Nat → (List ByteArray) → (List ByteArray) → (Int) →  Option ((Unit) ⊕ ((Bool) × Unit))
 | 0, _, _, _ => none
 | m + 1, v0, v1, v5 => Dy  (fun d => Bh m d.1 d.2.1 d.2.2.1) (fun d => some (.inl (d))) (fun d => some (.inr (d))) v0 v1 v5
noncomputable def Iv (a0 : List ByteArray) (a1 : List ByteArray) : Option ((((Bool) × Unit) × (Unit))) :=
 bif nI a0.length != nI a1.length then some ((false, ()), ()) else ((fun d => Bh (Dx d.1 d.2.1 d.2.2.1) d.1 d.2.1 d.2.2.1) (a0, a1, 0, ())).bind fun val => Ij (fun d => some ((true, ()), ())) (fun d => some (d, ())) val
theorem Wg (a0 : List ByteArray) (a1 : List ByteArray) r (h : Bt a0 a1 = some r) : Iv a0 a1 = some ((r, ()), (())) := by
 unfold Bt at h
 split at h
 rotate_left
 ·cases h
 rename_i hlen
 cases h
 unfold Iv
 by_cases hl : a1.length = a0.length
 ·have c1 : (nI a0.length != nI a1.length) = false := by simp [nI, hl]
  rw [c1]
  have hL := Acc (xs := a0) (ys := a1) z0 eqS (g := fun m i => Bh m a0 a1 i) (ok := .inl ()) (bad := .inr (false, ())) hl (fun m i hi => by
   show Bh (m + 1) a0 a1 i = _
   simp only [Bh, Dy]
   rw [cLt hi, Rr, cLt (show i < a1.length by omega), wI (by omega)]
   simp only [cond_true, Int.toNat_natCast]
   show (bif !(eqS (a0.getD i z0) (a1.getD i z0)) then _ else _) = bif eqS (a0.getD i z0) (a1.getD i z0) then _ else _
   cases eqS (a0.getD i z0) (a1.getD i z0) <;> rfl) (fun m => by
   show Bh (m + 1) a0 a1 (a0.length : Int) = _
   simp only [Bh, Dy]
   rw [Aa4]
   rfl) (Dx a0 a1 0) 0 (by omega) (by simp [Dx, nI])
  refine Cm hL ?_
  rw [List.drop_zero, List.drop_zero]
  cases eqL eqS a0 a1 <;> rfl
 ·have c1 : (nI a0.length != nI a1.length) = true := by simp [nI]; omega
  rw [c1, show eqL eqS a0 a1 = false from Acb fun q => hl q.symm]
  rfl
noncomputable def Kg {R : Type} (k : Kt R) := (Ij (Ph (pa_laws_wTexts 5) (.exit 0) 2 k) (Ph (pa_laws_wTexts 5) .ret 1 k))
noncomputable def N7 {R : Type} : Lt R pa_laws_wTexts := (Ho (pat := pa_laws_wTexts) 5 (fun d k => (Bh (Dx d.1 d.2.1 d.2.2.1) d.1 d.2.1 d.2.2.1).bind (Kg k)) Lk)
theorem My : Az Try.prog ta_laws_wTexts := B8 trivial
theorem R2 {R : Type} : Bg Try.prog R 26 0 pa_laws_wTexts N7 co_laws_wTexts_5 :=
 Ed (cfg := ⟨ta_laws_wTexts, 0, 26, pa_laws_wTexts⟩) 5 [] (fun NX X d => Dy  NX (fun e => X (.inl (e))) (fun e => X (.inr (e))) d.1 d.2.1 d.2.2.1) (fun m d => Bh m d.1 d.2.1 d.2.2.1) (fun d => Dx d.1 d.2.1 d.2.2.1) Kg My trivial (fun f NX d => by unfold Dy; simp only [Ay, Ba, Ar, Option.bind_assoc, Option.bind_none, Option.bind_some]) (fun _ _ _ => by kernel_rfl)
theorem Wh : D4 Try.prog 40 sd_laws_wTexts :=
 B9 (pat := pa_laws_wTexts) [co_laws_wTexts_5] N7 My ⟨R2, trivial⟩ Try.func40 (de := fun x => Iv x.1 x.2.1) (fun x r h => D6 (Wg x.1 x.2.1) h) fun _ => by kernel_rfl
def Tj : Sig := ⟨[.rd tI], [none], [.rd .bool], [none]⟩
noncomputable def Dh (a0 : Int) : Option ((((Bool) × Unit) × (Unit))) :=
 bif decide (a0 ≥ 1) then some ((decide (a0 ≤ 8), ()), ()) else some ((false, ()), ())
noncomputable def sd_spec_l1Width : SD := ⟨Tj, fun x => Dh x.1⟩
theorem Fq : D4 Try.prog 86 sd_spec_l1Width :=
 B9 (pat := Hj) [] Lk (B8 (l := []) trivial) trivial Try.func86 (de := fun x => Dh x.1) (fun x r h => h) fun _ => by kernel_rfl
def Jl (p : Pg) (w : Int) : Bool := Bk p w
def a8 : Sig := ⟨[.rd yPg, .rd tI], [some 4, none], [.rd .bool], [none]⟩
noncomputable def sd_spec_l1Ok : SD := ⟨a8, fun x => some (((Jl x.1 x.2.1), ()), (()))⟩
noncomputable def Le (a0 : Pg) (a1 : Int) : Option ((((Bool) × Unit) × (Unit))) :=
 (Dh a1).bind fun val => bif !val.1.1 then some ((false, ()), ()) else bif decide (a0.1 < 1) then some ((false, ()), ()) else bif decide (a0.1 > 4) then some ((false, ()), ()) else bif decide (a0.2.1 < 1) then some ((false, ()), ()) else bif decide (a0.2.1 > 60000) then some ((false, ()), ()) else bif decide (a0.2.2.1 < 1) then some ((false, ()), ()) else bif decide (a0.2.2.1 > 1000000000) then some ((false, ()), ()) else bif decide (nI (ByteArray.size a0.2.2.2.1) ≤ IntKind.i64.wrap (IntKind.i64.wrap (64 - a1) - 8)) then bif a0.1 != 3 then some ((true, ()), ()) else some ((ByteArray.toList a0.2.2.2.1 == (ByteArray.mk #[]).toList, ()), ()) else some ((false, ()), ())
theorem b4 (a0 : Pg) (a1 : Int) : Le a0 a1 = some (((Jl a0 a1), ()), (())) := by
 unfold Le Jl Bk
 have tl : ByteArray.toList (ByteArray.mk #[]) = [] := by decide +kernel
 rw [tl]
 refine Sz (wid a1) ?_
 show (bif !Cb a1 1 8 then _ else _) = _
 cases hw : Cb a1 1 8 with
 | false => rfl
 | true =>
  have k1 := of_decide_eq_true (Dw hw).1
  have k2 := of_decide_eq_true (Dw hw).2
  rw [Ac (n := 64 - a1) (by omega) (by omega), Ac (by omega) (by omega), show 64 - a1 - 8 = 56 - a1 by omega]
  have e : ∀ (x lo hi : Int) {ρ : Type} (f t : ρ), (bif decide (x < lo) then f else bif decide (x > hi) then f else t) = bif Cb x lo hi then t else f := by
   intro x lo hi ρ f t
   unfold Cb
   by_cases h1 : x < lo
   ·rw [decide_eq_true h1, decide_eq_false (show ¬ lo ≤ x by omega)]; rfl
   ·rw [decide_eq_false h1, decide_eq_true (show lo ≤ x by omega)]
    by_cases h2 : x > hi
    ·rw [decide_eq_true h2, decide_eq_false (show ¬ x ≤ hi by omega)]; rfl
    ·rw [decide_eq_false h2, decide_eq_true (show x ≤ hi by omega)]; rfl
  rw [e a0.1, e a0.2.1, e a0.2.2.1]
  cases Cb a0.1 1 4 <;> cases Cb a0.2.1 1 60000 <;> cases Cb a0.2.2.1 1 1000000000 <;> try rfl
  show (bif decide ((ByteArray.size a0.2.2.2.1 : Int) ≤ 56 - a1) then _ else _) = _
  cases decide ((ByteArray.size a0.2.2.2.1 : Int) ≤ 56 - a1) <;> cases (a0.1 != 3) <;> rfl
theorem b5 : D4 Try.prog 80 sd_spec_l1Ok :=
 B9 (pat := Hj) [] Lk (B8 (l := [(77, sd_spec_l1Part), (86, sd_spec_l1Width)]) ⟨Io, Fq, trivial⟩) trivial Try.func80 (de := fun x => Le x.1 x.2.1) (fun x r h => (b4 x.1 x.2.1).trans h) fun _ => by kernel_rfl
theorem Kh : ∃ f : Int → Int → Option ByteArray, f = fun v n => if 0 ≤ v ∧ v < 9223372036854775808 ∧ 0 ≤ n ∧ n ≤ 1000 then some (Ch v n.toNat) else none := ⟨_, rfl⟩
noncomputable def A4 (v n : Int) : Option ByteArray := Classical.choose Kh v n
theorem Dz (v n : Int) : A4 v n = if 0 ≤ v ∧ v < 9223372036854775808 ∧ 0 ≤ n ∧ n ≤ 1000 then some (Ch v n.toNat) else none := by
 unfold A4
 rw [Classical.choose_spec Kh]
def C2 (v0 v1 : Int) (v5 : ByteArray) (v6 : Int) : Nat := (v1 - v6).toNat + 1
def R3 : Sig := ⟨[.rd tI, .rd tI], [none, none], [.rd .str], [none]⟩
noncomputable def sd_spec_l1Number : SD := ⟨R3, fun x => (A4 x.1 x.2.1).bind fun r => some ((r, ()), (()))⟩
noncomputable def ta_spec_l1Number : Tb := tb []
def pa_spec_l1Number : Nat → Pat × (Nat → Pat) := I4 [(4, ⟨[], [(0, .lf (.d tI)), (1, .lf (.d tI)), (5, .lf (.d .str)), (6, .lf (.d tI))], []⟩, [(2, ⟨[], [(5, .lf (.d .str))], []⟩)])]
noncomputable def co_spec_l1Number_4 : Code := (Aw (Cf Try.f81)).getD 0 .skip
noncomputable def C3 {R : Type}  (NX : ((Int) × (Int) × (ByteArray) × (Int) × Unit) → Option R) (X2 : ((ByteArray) × Unit) → Option R) (v0 : Int) (v1 : Int) (v5 : ByteArray) (v6 : Int) : Option R :=
 bif decide (v6 < v1) then bif decide ((strOfNums [IntKind.u8.wrap (v0.tmod 256)]).size + v5.size ≤ 9223372036854775807) then NX (IntKind.i64.wrap (v0.tdiv 256), v1, strOfNums [IntKind.u8.wrap (v0.tmod 256)] ++ v5, IntKind.i64.wrap (v6 + 1), ()) else none else X2 (v5, ())
noncomputable def Bw : Nat → (Int) → (Int) → (ByteArray) → (Int) →  Option ((ByteArray) × Unit)
 | 0, _, _, _, _ => none
 | m + 1, v0, v1, v5, v6 => C3  (fun d => Bw m d.1 d.2.1 d.2.2.1 d.2.2.2.1) (fun d => some (d)) v0 v1 v5 v6
noncomputable def G8 (a0 : Int) (a1 : Int) : Option ((((ByteArray) × Unit) × (Unit))) :=
 ((fun d => Bw (C2 d.1 d.2.1 d.2.2.1 d.2.2.2.1) d.1 d.2.1 d.2.2.1 d.2.2.2.1) (a0, a1, ByteArray.mk #[], 0, ())).bind fun val => some (val, ())
theorem N8 : ∀ (k m i : Nat) (v : Int) (out : ByteArray), i + k ≤ 1000 → k < m → out.size = i → 0 ≤ v → v < 9223372036854775808 → Bw m v ((i + k : Nat) : Int) out i = some (Ch v k ++ out, ())
 | 0, m + 1, i, v, out, hi, hm, ho, h0, h1 => by
  simp only [Bw, C3]
  rw [decide_eq_false (by omega), n9]
  rfl
 | k + 1, m + 1, i, v, out, hi, hm, ho, h0, h1 => by
  simp only [Bw, C3]
  have e1 : IntKind.wrap IntKind.u8 (Int.tmod v 256) = v % 256 := by
   rw [Int.tmod_eq_emod_of_nonneg h0]
   show v % 256 % 256 = v % 256
   omega
  have e2 : IntKind.i64.wrap (Int.tdiv v 256) = v / 256 := by
   rw [Int.tdiv_eq_ediv_of_nonneg h0]
   exact Ac (by omega) (by omega)
  rw [decide_eq_true (show (i : Int) < ((i + (k + 1) : Nat) : Int) by omega), e1, e2, decide_eq_true (show ByteArray.size (strOfNums [v % 256]) + ByteArray.size out ≤ 9223372036854775807 by rw [ho, B1]; simp; omega), wI (show i < 4611686018427387904 by omega)]
  have hL := N8 k m (i + 1) (v / 256) (strOfNums [v % 256] ++ out) (by omega) (by omega) (by rw [ByteArray.size_append, ho, B1]; simp; omega) (by omega) (by omega)
  rw [show i + 1 + k = i + (k + 1) by omega] at hL
  refine hL.trans ?_
  rw [← ByteArray.append_assoc, ← o5]
theorem R4 (a0 : Int) (a1 : Int) r (h : A4 a0 a1 = some r) : G8 a0 a1 = some ((r, ()), (())) := by
 rw [Dz] at h
 split at h
 ·rename_i hc
  cases h
  obtain ⟨n, rfl⟩ : ∃ n : Nat, a1 = (n : Int) := ⟨a1.toNat, by omega⟩
  unfold G8
  have hL := N8 n (C2 a0 n (ByteArray.mk #[]) 0) 0 a0 (ByteArray.mk #[]) (by omega) (by simp only [C2]; omega) rfl hc.1 hc.2.1
  rw [Nat.zero_add] at hL
  rw [Ae9] at hL
  exact Sz hL rfl
 ·cases h
noncomputable def Iw {R : Type} (k : Kt R) := (Ph (pa_spec_l1Number 4) (.exit 0) 2 k)
noncomputable def Lp {R : Type} : Lt R pa_spec_l1Number := (Ho (pat := pa_spec_l1Number) 4 (fun d k => (Bw (C2 d.1 d.2.1 d.2.2.1 d.2.2.2.1) d.1 d.2.1 d.2.2.1 d.2.2.2.1).bind (Iw k)) Lk)
theorem Ki : Az Try.prog ta_spec_l1Number := B8 trivial
theorem Pa {R : Type} : Bg Try.prog R 22 0 pa_spec_l1Number Lp co_spec_l1Number_4 :=
 Ed (cfg := ⟨ta_spec_l1Number, 0, 22, pa_spec_l1Number⟩) 4 [] (fun NX X d => C3  NX X d.1 d.2.1 d.2.2.1 d.2.2.2.1) (fun m d => Bw m d.1 d.2.1 d.2.2.1 d.2.2.2.1) (fun d => C2 d.1 d.2.1 d.2.2.1 d.2.2.2.1) Iw Ki trivial (fun f NX d => by unfold C3; simp only [Ay, Ba, Ar, Option.bind_assoc, Option.bind_none, Option.bind_some]) (fun _ _ _ => by kernel_rfl)
theorem R5 : D4 Try.prog 81 sd_spec_l1Number :=
 B9 (pat := pa_spec_l1Number) [co_spec_l1Number_4] Lp Ki ⟨Pa, trivial⟩ Try.func81 (de := fun x => G8 x.1 x.2.1) (fun x r h => D6 (R4 x.1 x.2.1) h) fun _ => by kernel_rfl
def Ix (s : ByteArray) (w : Int) : Option ByteArray := if s.size < 4611686018427387904 then some (Qf s w) else none
def Ff (v0 : ByteArray) (v1 v5 v6 : Int) : Nat := (nI v0.size - v6).toNat + 1
def Et (v1 v5 : Int) (v7 : ByteArray) (v8 : Int) : Nat := (v1 - v8).toNat + 1
def w5 : Sig := ⟨[.rd .str, .rd tI], [none, none], [.rd .str], [none]⟩
noncomputable def sd_spec_Sum : SD := ⟨w5, fun x => (Ix x.1 x.2.1).bind fun r => some ((r, ()), (()))⟩
noncomputable def ta_spec_Sum : Tb := tb [(86, sd_spec_l1Width)]
def pa_spec_Sum : Nat → Pat × (Nat → Pat) := I4 [(6, ⟨[], [(0, .lf (.d .str)), (1, .lf (.d tI)), (5, .lf (.d (.int .u64))), (6, .lf (.d tI))], []⟩, [(2, ⟨[], [(1, .lf (.d tI)), (5, .lf (.d (.int .u64)))], []⟩)]), (11, ⟨[], [(1, .lf (.d tI)), (5, .lf (.d (.int .u64))), (7, .lf (.d .str)), (8, .lf (.d tI))], []⟩, [(4, ⟨[], [(7, .lf (.d .str))], []⟩)])]
noncomputable def co_spec_Sum_6 : Code := (Aw (Cf Try.f82)).getD 0 .skip
noncomputable def co_spec_Sum_11 : Code := (Aw (Cf Try.f82)).getD 1 .skip
noncomputable def Eu {R : Type}  (NX : ((Int) × (Int) × (ByteArray) × (Int) × Unit) → Option R) (X4 : ((ByteArray) × Unit) → Option R) (v1 : Int) (v5 : Int) (v7 : ByteArray) (v8 : Int) : Option R :=
 bif decide (v8 < v1) then bif decide ((strOfNums [IntKind.u8.wrap (v5.tmod 256)]).size + v7.size ≤ 9223372036854775807) then NX (v1, IntKind.u64.wrap (v5.tdiv 256), strOfNums [IntKind.u8.wrap (v5.tmod 256)] ++ v7, IntKind.i64.wrap (v8 + 1), ()) else none else X4 (v7, ())
noncomputable def C4 : Nat → (Int) → (Int) → (ByteArray) → (Int) →  Option ((ByteArray) × Unit)
 | 0, _, _, _, _ => none
 | m + 1, v1, v5, v7, v8 => Eu  (fun d => C4 m d.1 d.2.1 d.2.2.1 d.2.2.2.1) (fun d => some (d)) v1 v5 v7 v8
noncomputable def Fg {R : Type}  (NX : ((ByteArray) × (Int) × (Int) × (Int) × Unit) → Option R) (X2 : ((Int) × (Int) × Unit) → Option R) (v0 : ByteArray) (v1 : Int) (v5 : Int) (v6 : Int) : Option R :=
 bif decide (v6 < nI v0.size) then bif decide (0 ≤ v6) then bif decide (v6 < nI v0.size) then NX (v0, v1, IntKind.u64.wrap (IntKind.u64.wrap (nI (BitVec.ofInt 64 v5 ^^^ BitVec.ofInt 64 (IntKind.u64.wrap (Av v0 v6))).toNat) * 1099511628211), IntKind.i64.wrap (v6 + 1), ()) else none else none else X2 (v1, v5, ())
noncomputable def Ck : Nat → (ByteArray) → (Int) → (Int) → (Int) →  Option ((Int) × (Int) × Unit)
 | 0, _, _, _, _ => none
 | m + 1, v0, v1, v5, v6 => Fg  (fun d => Ck m d.1 d.2.1 d.2.2.1 d.2.2.2.1) (fun d => some (d)) v0 v1 v5 v6
noncomputable def Mz (a0 : ByteArray) (a1 : Int) : Option ((((ByteArray) × Unit) × (Unit))) :=
 (Dh a1).bind fun val => bif !val.1.1 then some ((ByteArray.mk #[], ()), ()) else ((fun d => Ck (Ff d.1 d.2.1 d.2.2.1 d.2.2.2.1) d.1 d.2.1 d.2.2.1 d.2.2.2.1) (a0, a1, 14695981039346656037, 0, ())).bind fun val => ((fun d => C4 (Et d.1 d.2.1 d.2.2.1 d.2.2.2.1) d.1 d.2.1 d.2.2.1 d.2.2.2.1) (val.1, val.2.1, ByteArray.mk #[], 0, ())).bind fun val => some (val, ())
theorem Wi : ∀ (k m i : Nat) (v : Int) (out : ByteArray), i + k ≤ 1000 → k < m → out.size = i → U64 v → C4 m ((i + k : Nat) : Int) v out i = some (Ch v k ++ out, ())
 | 0, m + 1, i, v, out, hi, hm, ho, hv => by
  simp only [C4, Eu]
  rw [decide_eq_false (by omega), n9]
  rfl
 | k + 1, m + 1, i, v, out, hi, hm, ho, hv => by
  have h0 := hv.1
  have h1 := hv.2
  simp only [C4, Eu]
  have e1 : IntKind.wrap IntKind.u8 (Int.tmod v 256) = v % 256 := by
   rw [Int.tmod_eq_emod_of_nonneg h0]
   show v % 256 % 256 = v % 256
   omega
  have e2 : IntKind.wrap IntKind.u64 (Int.tdiv v 256) = v / 256 := by
   rw [Int.tdiv_eq_ediv_of_nonneg h0, Ahq]
   omega
  rw [decide_eq_true (show (i : Int) < ((i + (k + 1) : Nat) : Int) by omega), e1, e2, decide_eq_true (show ByteArray.size (strOfNums [v % 256]) + ByteArray.size out ≤ 9223372036854775807 by rw [ho, B1]; simp; omega), wI (show i < 4611686018427387904 by omega)]
  have hL := Wi k m (i + 1) (v / 256) (strOfNums [v % 256] ++ out) (by omega) (by omega) (by rw [ByteArray.size_append, ho, B1]; simp; omega) ⟨by omega, by omega⟩
  rw [show i + 1 + k = i + (k + 1) by omega] at hL
  refine hL.trans ?_
  rw [← ByteArray.append_assoc, ← o5]
theorem w6 (a0 : ByteArray) (a1 : Int) r (h : Ix a0 a1 = some r) : Mz a0 a1 = some ((r, ()), (())) := by
 unfold Ix at h
 split at h
 rotate_left
 ·cases h
 rename_i hsz
 cases h
 unfold Mz Qf
 generalize hC : (14695981039346656037 : Int) = C
 have h0 : U64 C := by rw [← hC]; exact ⟨by decide, by decide⟩
 refine Sz (wid a1) ?_
 show (bif !Cb a1 1 8 then _ else _) = _
 cases hw : Cb a1 1 8 with
 | false => rfl
 | true =>
  have k1 := of_decide_eq_true (Dw hw).1
  have k2 := of_decide_eq_true (Dw hw).2
  ·simp only [Bool.not_true, cond_false, cond_true]
   have hL := Qi a0.size (fun _ _ => True) (fun i h => Mm h (Av a0 i)) (g := fun m i h => Ck m a0 a1 h i) (ok := fun h => (a1, h, ())) (fun m i h hi _ => by
    show Ck (m + 1) a0 a1 h i = _
    simp only [Ck, Fg]
    have c1 : (i : Int) < nI a0.size := by simp only [nI]; omega
    rw [decide_eq_true c1, Rr, wI (show i < 4611686018427387904 by omega)]
    rfl) (fun m h _ => by
    show Ck (m + 1) a0 a1 h a0.size = _
    simp only [Ck, Fg]
    rw [decide_eq_false (show ¬ ((a0.size : Int) < nI a0.size) by simp only [nI]; omega)]
    rfl) (fun _ _ _ _ => trivial) a0.size (Ff a0 a1 C 0) 0 C (by omega) (by simp only [Ff, nI]; omega) trivial
   rw [show ((0 : Nat) : Int) = 0 from rfl] at hL
   refine Sz hL ?_
   obtain ⟨n, rfl⟩ : ∃ n : Nat, a1 = (n : Int) := ⟨a1.toNat, by omega⟩
   have hM := Wi n (Et n (Rp a0 a0.size 0 C) (ByteArray.mk #[]) 0) 0 (Rp a0 a0.size 0 C) (ByteArray.mk #[]) (by omega) (by simp only [Et]; omega) rfl (Ace a0 _ _ h0)
   rw [Nat.zero_add, Ae9] at hM
   exact Sz hM rfl
noncomputable def N9 {R : Type} (k : Kt R) := (Ph (pa_spec_Sum 6) (.exit 0) 2 k)
noncomputable def M0 {R : Type} (k : Kt R) := (Ph (pa_spec_Sum 11) (.exit 2) 4 k)
noncomputable def Pb {R : Type} : Lt R pa_spec_Sum := (Ho (pat := pa_spec_Sum) 6 (fun d k => (Ck (Ff d.1 d.2.1 d.2.2.1 d.2.2.2.1) d.1 d.2.1 d.2.2.1 d.2.2.2.1).bind (N9 k)) (Ho (pat := pa_spec_Sum) 11 (fun d k => (C4 (Et d.1 d.2.1 d.2.2.1 d.2.2.2.1) d.1 d.2.1 d.2.2.1 d.2.2.2.1).bind (M0 k)) Lk))
theorem M1 : Az Try.prog ta_spec_Sum := B8 ⟨Fq, trivial⟩
theorem Wj {R : Type} : Bg Try.prog R 40 0 pa_spec_Sum Pb co_spec_Sum_11 :=
 Ed (cfg := ⟨ta_spec_Sum, 0, 40, pa_spec_Sum⟩) 11 [] (fun NX X d => Eu  NX X d.1 d.2.1 d.2.2.1 d.2.2.2.1) (fun m d => C4 m d.1 d.2.1 d.2.2.1 d.2.2.2.1) (fun d => Et d.1 d.2.1 d.2.2.1 d.2.2.2.1) M0 M1 trivial (fun f NX d => by unfold Eu; simp only [Ay, Ba, Ar, Option.bind_assoc, Option.bind_none, Option.bind_some]) (fun _ _ _ => by kernel_rfl)
theorem Xc {R : Type} : Bg Try.prog R 40 0 pa_spec_Sum Pb co_spec_Sum_6 :=
 Ed (cfg := ⟨ta_spec_Sum, 0, 40, pa_spec_Sum⟩) 6 [] (fun NX X d => Fg  NX X d.1 d.2.1 d.2.2.1 d.2.2.2.1) (fun m d => Ck m d.1 d.2.1 d.2.2.1 d.2.2.2.1) (fun d => Ff d.1 d.2.1 d.2.2.1 d.2.2.2.1) N9 M1 trivial (fun f NX d => by unfold Fg; simp only [Ay, Ba, Ar, Option.bind_assoc, Option.bind_none, Option.bind_some]) (fun _ _ _ => by kernel_rfl)
theorem w8 : D4 Try.prog 82 sd_spec_Sum :=
 B9 (pat := pa_spec_Sum) [co_spec_Sum_6, co_spec_Sum_11] Pb M1 ⟨Xc, Wj, trivial⟩ Try.func82 (de := fun x => Mz x.1 x.2.1) (fun x r h => D6 (w6 x.1 x.2.1) h) fun _ => by kernel_rfl
def Ct (p : Pg) (w : Int) : ByteArray := A8 p w
def C5 (v1 : Int) (v5 : ByteArray) : Nat := (64 - v1 - nI v5.size).toNat + 1
def R6 : Sig := ⟨[.rd yPg, .rd tI], [some 4, none], [.rd .str], [none]⟩
noncomputable def sd_spec_FormPage : SD := ⟨R6, fun x => some (((Ct x.1 x.2.1), ()), (()))⟩
noncomputable def ta_spec_FormPage : Tb := tb [(80, sd_spec_l1Ok), (81, sd_spec_l1Number), (82, sd_spec_Sum)]
def pa_spec_FormPage : Nat → Pat × (Nat → Pat) := I4 [(5, ⟨[], [(1, .lf (.d tI)), (5, .lf (.d .str))], []⟩, [(2, ⟨[], [(1, .lf (.d tI)), (5, .lf (.d .str))], []⟩)])]
noncomputable def co_spec_FormPage_5 : Code := (Aw (Cf Try.f28)).getD 0 .skip
noncomputable def C6 {R : Type}  (NX : ((Int) × (ByteArray) × Unit) → Option R) (X2 : ((Int) × (ByteArray) × Unit) → Option R) (v1 : Int) (v5 : ByteArray) : Option R :=
 bif decide (IntKind.i64.wrap (nI v5.size + v1) < 64) then bif decide (v5.size + (ByteArray.mk #[0]).size ≤ 9223372036854775807) then NX (v1, v5 ++ ByteArray.mk #[0], ()) else none else X2 (v1, v5, ())
noncomputable def Bx : Nat → (Int) → (ByteArray) →  Option ((Int) × (ByteArray) × Unit)
 | 0, _, _ => none
 | m + 1, v1, v5 => C6  (fun d => Bx m d.1 d.2.1) (fun d => some (d)) v1 v5
noncomputable def G9 (a0 : Pg) (a1 : Int) : Option ((((ByteArray) × Unit) × (Unit))) :=
 bif !Jl a0 a1 then some ((ByteArray.mk #[], ()), ()) else ((A4 a0.1 1).bind fun val => some ((val, ()), ())).bind fun val => ((A4 a0.2.1 2).bind fun val => some ((val, ()), ())).bind fun val_1 => bif decide (ByteArray.size val.1.1 + ByteArray.size val_1.1.1 ≤ 9223372036854775807) then ((A4 a0.2.2.1 4).bind fun val => some ((val, ()), ())).bind fun val_2 => bif decide ((val.1.1 ++ val_1.1.1).size + ByteArray.size val_2.1.1 ≤ 9223372036854775807) then ((A4 (nI (ByteArray.size a0.2.2.2.1)) 1).bind fun val => some ((val, ()), ())).bind fun val_3 => bif decide ((val.1.1 ++ val_1.1.1 ++ val_2.1.1).size + ByteArray.size val_3.1.1 ≤ 9223372036854775807) then bif decide ((val.1.1 ++ val_1.1.1 ++ val_2.1.1 ++ val_3.1.1).size + ByteArray.size a0.2.2.2.1 ≤ 9223372036854775807) then ((fun d => Bx (C5 d.1 d.2.1) d.1 d.2.1) (a1, val.1.1 ++ val_1.1.1 ++ val_2.1.1 ++ val_3.1.1 ++ a0.2.2.2.1, ())).bind fun val => ((Ix val.2.1 val.1).bind fun val => some ((val, ()), ())).bind fun val_4 => bif decide (ByteArray.size val_4.1.1 + ByteArray.size val.2.1 ≤ 9223372036854775807) then some ((val_4.1.1 ++ val.2.1, ()), ()) else none else none else none else none else none
theorem w9 (w : Int) : ∀ (k m : Nat) (b : ByteArray), (b.size : Int) + w + k = 64 → 0 ≤ w → k < m → Bx m w b = some (w, b ++ strOfNums (List.replicate k 0), ())
 | 0, m + 1, b, h, h0, hm => by
  simp only [Bx, C6]
  rw [Ac (by simp only [nI]; omega) (by simp only [nI]; omega), decide_eq_false (show ¬ (nI b.size + w < 64) by simp only [nI]; omega), show strOfNums (List.replicate 0 0) = ByteArray.mk #[] from rfl, Ae9]
  rfl
 | k + 1, m + 1, b, h, h0, hm => by
  simp only [Bx, C6]
  have hz : (ByteArray.mk #[0]).size = 1 := rfl
  rw [Ac (by simp only [nI]; omega) (by simp only [nI]; omega), decide_eq_true (show nI b.size + w < 64 by simp only [nI]; omega), hz, decide_eq_true (show b.size + 1 ≤ 9223372036854775807 by omega)]
  have := w9 w k m (b ++ ByteArray.mk #[0]) (by rw [ByteArray.size_append, hz]; omega) h0 (by omega)
  refine this.trans ?_
  rw [ByteArray.append_assoc, show ByteArray.mk #[0] = strOfNums [0] from rfl, ← N1]
  rfl
theorem R7 (a0 : Pg) (a1 : Int) : G9 a0 a1 = some (((Ct a0 a1), ()), (())) := by
 unfold G9 Ct A8
 show (bif !Bk a0 a1 then _ else _) = _
 cases hp : Bk a0 a1 with
 | false => rfl
 | true =>
  obtain ⟨hw, k1, k2, kp⟩ := Ik hp
  obtain ⟨r1, r2, r3⟩ := Vy hp
  have n1 : A4 a0.1 1 = some (Ch a0.1 1) := (Dz _ _).trans (if_pos (by omega))
  have n2 : A4 a0.2.1 2 = some (Ch a0.2.1 2) := (Dz _ _).trans (if_pos (by omega))
  have n3 : A4 a0.2.2.1 4 = some (Ch a0.2.2.1 4) := (Dz _ _).trans (if_pos (by omega))
  have n4 : A4 (nI a0.2.2.2.1.size) 1 = some (Ch (nI a0.2.2.2.1.size) 1) := (Dz _ _).trans (if_pos (by simp only [nI]; omega))
  simp only [Bool.not_true, cond_false, cond_true, n1, n2, n3, n4, Option.bind_some]
  have hb : Cr a0 a1 = Ch a0.1 1 ++ Ch a0.2.1 2 ++ Ch a0.2.2.1 4 ++ Ch (nI a0.2.2.2.1.size) 1 ++ a0.2.2.2.1 ++ strOfNums (List.replicate (56 - a1 - a0.2.2.2.1.size).toNat 0) := rfl
  have hs4 : (Ch a0.1 1 ++ Ch a0.2.1 2 ++ Ch a0.2.2.1 4 ++ Ch (nI a0.2.2.2.1.size) 1).size = 8 := by simp only [ByteArray.size_append, Fb]
  have hs3 : (Ch a0.1 1 ++ Ch a0.2.1 2 ++ Ch a0.2.2.1 4).size = 7 := by simp only [ByteArray.size_append, Fb]
  have hs2 : (Ch a0.1 1 ++ Ch a0.2.1 2).size = 3 := by simp only [ByteArray.size_append, Fb]
  have hs5 : (Ch a0.1 1 ++ Ch a0.2.1 2 ++ Ch a0.2.2.1 4 ++ Ch (nI a0.2.2.2.1.size) 1 ++ a0.2.2.2.1).size = 8 + a0.2.2.2.1.size := by rw [ByteArray.size_append, hs4]
  rw [hs4, hs3, hs2, Fb, Fb, Fb, Fb, decide_eq_true (show 1 + 2 ≤ 9223372036854775807 by decide), decide_eq_true (show 3 + 4 ≤ 9223372036854775807 by decide), decide_eq_true (show 7 + 1 ≤ 9223372036854775807 by decide), decide_eq_true (show 8 + a0.2.2.2.1.size ≤ 9223372036854775807 by omega)]
  simp only [cond_true]
  generalize hB : Ch a0.1 1 ++ Ch a0.2.1 2 ++ Ch a0.2.2.1 4 ++ Ch (nI a0.2.2.2.1.size) 1 ++ a0.2.2.2.1 = B at *
  have hL := w9 a1 (56 - a1 - a0.2.2.2.1.size).toNat (C5 a1 B) B (by rw [hs5]; omega) (by omega) (by simp only [C5, nI, hs5]; omega)
  have hz : (strOfNums (List.replicate (56 - a1 - a0.2.2.2.1.size).toNat 0)).size = (56 - a1 - a0.2.2.2.1.size).toNat := by rw [B1, List.length_replicate]
  rw [← hb] at hL
  have hbs : (Cr a0 a1).size ≤ 64 := by rw [hb, ByteArray.size_append, hs5, hz]; omega
  have hm : Ix (Cr a0 a1) a1 = some (Qf (Cr a0 a1) a1) := if_pos (by omega)
  refine Sz hL (Sz (Sz hm rfl) ?_)
  show (bif decide (ByteArray.size (Qf (Cr a0 a1) a1) + ByteArray.size (Cr a0 a1) ≤ 9223372036854775807) then some ((Qf (Cr a0 a1) a1 ++ Cr a0 a1, ()), ()) else none) = _
  rw [Kb hw, decide_eq_true (by omega)]
  rfl
noncomputable def Iy {R : Type} (k : Kt R) := (Ph (pa_spec_FormPage 5) (.exit 0) 2 k)
noncomputable def Lq {R : Type} : Lt R pa_spec_FormPage := (Ho (pat := pa_spec_FormPage) 5 (fun d k => (Bx (C5 d.1 d.2.1) d.1 d.2.1).bind (Iy k)) Lk)
theorem Kj : Az Try.prog ta_spec_FormPage := B8 ⟨b5, R5, w8, trivial⟩
theorem Pc {R : Type} : Bg Try.prog R 41 0 pa_spec_FormPage Lq co_spec_FormPage_5 :=
 Ed (cfg := ⟨ta_spec_FormPage, 0, 41, pa_spec_FormPage⟩) 5 [] (fun NX X d => C6  NX X d.1 d.2.1) (fun m d => Bx m d.1 d.2.1) (fun d => C5 d.1 d.2.1) Iy Kj trivial (fun f NX d => by unfold C6; simp only [Ay, Ba, Ar, Option.bind_assoc, Option.bind_none, Option.bind_some]) (fun _ _ _ => by kernel_rfl)
theorem R8 : D4 Try.prog 28 sd_spec_FormPage :=
 B9 (pat := pa_spec_FormPage) [co_spec_FormPage_5] Lq Kj ⟨Pc, trivial⟩ Try.func28 (de := fun x => G9 x.1 x.2.1) (fun x r h => (R7 x.1 x.2.1).trans h) fun _ => by kernel_rfl
def C7 (s : ByteArray) (w : Int) : Option (List ByteArray) := if s.size ≤ 1099511627776 ∧ 1 ≤ w ∧ w ≤ 8 then some (Ag s w) else none
def Dj (v0 : ByteArray) (v6 : Int) (r0 : List ByteArray) : Nat := v0.size + 1
def Tk : Sig := ⟨[.rd .str, .rd tI], [none, none], [.own 9 .str], [none]⟩
noncomputable def sd_spec_l3Parts : SD := ⟨Tk, fun x => (C7 x.1 x.2.1).bind fun r => some ((r, ()), (()))⟩
noncomputable def ta_spec_l3Parts : Tb := tb [(77, sd_spec_l1Part)]
def pa_spec_l3Parts : Nat → Pat × (Nat → Pat) := I4 [(4, ⟨[.row 5 0 9 .str], [(0, .lf (.d .str)), (5, .lf (.row 0)), (6, .lf (.d tI))], [.row 9 .str]⟩, [(2, ⟨[.row 5 0 9 .str], [(0, .lf (.d .str)), (5, .lf (.row 0))], [.row 9 .str]⟩)])]
noncomputable def co_spec_l3Parts_4 : Code := (Aw (Cf Try.f102)).getD 0 .skip
noncomputable def Cs {R : Type}  (NX : ((ByteArray) × (Int) × (List ByteArray) × Unit) → Option R) (X2 : ((ByteArray) × (List ByteArray) × Unit) → Option R) (v0 : ByteArray) (v6 : Int) (r0 : List ByteArray) : Option R :=
 bif decide (nI v0.size > v6) then bif decide (0 ≤ v6) then bif decide (v6 ≤ nI v0.size) then bif decide ((r0.length + [Ad v0 0 v6].length) * 16 ≤ 140737488355328) then bif decide (0 ≤ v6) then bif decide (v6 ≤ nI v0.size) then NX (Ad v0 v6 (nI v0.size), v6, r0 ++ [Ad v0 0 v6], ()) else none else none else none else none else none else X2 (v0, r0, ())
noncomputable def Bo : Nat → (ByteArray) → (Int) → (List ByteArray) →  Option ((ByteArray) × (List ByteArray) × Unit)
 | 0, _, _, _ => none
 | m + 1, v0, v6, r0 => Cs  (fun d => Bo m d.1 d.2.1 d.2.2.1) (fun d => some (d)) v0 v6 r0
noncomputable def Hq (a0 : ByteArray) (a1 : Int) : Option ((((List ByteArray) × Unit) × (Unit))) :=
 ((fun d => Bo (Dj d.1 d.2.1 d.2.2.1) d.1 d.2.1 d.2.2.1) (a0, IntKind.i64.wrap (IntKind.i64.wrap (64 - a1) - 8), [], ())).bind fun val => bif decide ((val.2.1.length + [val.1].length) * 16 ≤ 140737488355328) then some ((val.2.1 ++ [val.1], ()), ()) else none
theorem Wk (n : Nat) (hn : 1 ≤ n) (hn2 : n ≤ 64) : ∀ (k m : Nat) (s : ByteArray) (r : List ByteArray), s.size ≤ k → k < m → r.length + s.size ≤ 1099511627777 →
  ∃ q t, Bo m s n r = some (t, q, ()) ∧ q ++ [t] = r ++ Bb n k s ∧ q.length + 1 ≤ 1099511627778
 | 0, m + 1, s, r, hs, hm, hr => by
  refine ⟨r, s, ?_, rfl, by omega⟩
  simp only [Bo, Cs]
  rw [decide_eq_false (show ¬ (nI s.size > (n : Int)) by simp only [nI]; omega)]
  rfl
 | k + 1, m + 1, s, r, hs, hm, hr => by
  by_cases q : s.size > n
  ·have hc : (Ad s n (nI s.size)).size = s.size - n := by rw [D8 (by omega) (by simp only [nI]; omega) (by simp [nI])]; simp only [nI]; omega
   obtain ⟨q', t', e1, e2, e3⟩ := Wk n hn hn2 k m (Ad s n (nI s.size)) (r ++ [Ad s 0 n]) (by omega) (by omega) (by rw [List.length_append, List.length_singleton]; omega)
   refine ⟨q', t', ?_, ?_, e3⟩
   ·simp only [Bo, Cs]
    rw [decide_eq_true (show nI s.size > (n : Int) by simp only [nI]; omega), Rr, decide_eq_true (show (n : Int) ≤ nI s.size by simp only [nI]; omega), decide_eq_true (show (r.length + [Ad s 0 n].length) * 16 ≤ 140737488355328 by rw [List.length_singleton]; omega)]
    exact e1
   ·rw [e2, List.append_assoc]
    simp only [Bb, if_pos q]
    rfl
  ·refine ⟨r, s, ?_, by simp only [Bb, if_neg q], by omega⟩
   simp only [Bo, Cs]
   rw [decide_eq_false (show ¬ (nI s.size > (n : Int)) by simp only [nI]; omega)]
   rfl
theorem Tl (a0 : ByteArray) (a1 : Int) r (h : C7 a0 a1 = some r) : Hq a0 a1 = some ((r, ()), (())) := by
 unfold C7 at h
 split at h
 ·rename_i hc
  cases h
  obtain ⟨h0, h1, h2⟩ := hc
  obtain ⟨n, hn⟩ : ∃ n : Nat, 56 - a1 = (n : Int) := ⟨(56 - a1).toNat, by omega⟩
  unfold Hq Ag
  rw [Ac (n := 64 - a1) (by omega) (by omega), Ac (n := 64 - a1 - 8) (by omega) (by omega), show 64 - a1 - 8 = 56 - a1 by omega, hn, Int.toNat_natCast]
  obtain ⟨q, t, e1, e2, e3⟩ := Wk n (by omega) (by omega) a0.size (Dj a0 n []) a0 [] (by omega) (by simp only [Dj]; omega) (by rw [List.length_nil]; omega)
  rw [List.nil_append] at e2
  refine Sz e1 ?_
  show (bif decide ((q.length + [t].length) * 16 ≤ 140737488355328) then some ((q ++ [t], ()), ()) else none) = _
  rw [decide_eq_true (by rw [List.length_singleton]; omega), e2]
  rfl
 ·cases h
noncomputable def Jm {R : Type} (k : Kt R) := (Ph (pa_spec_l3Parts 4) (.exit 0) 2 k)
noncomputable def M2 {R : Type} : Lt R pa_spec_l3Parts := (Ho (pat := pa_spec_l3Parts) 4 (fun d k => (Bo (Dj d.1 d.2.1 d.2.2.1) d.1 d.2.1 d.2.2.1).bind (Jm k)) Lk)
theorem Lr : Az Try.prog ta_spec_l3Parts := B8 ⟨Io, trivial⟩
theorem Qv {R : Type} : Bg Try.prog R 27 0 pa_spec_l3Parts M2 co_spec_l3Parts_4 :=
 Ed (cfg := ⟨ta_spec_l3Parts, 0, 27, pa_spec_l3Parts⟩) 4 [] (fun NX X d => Cs  NX X d.1 d.2.1 d.2.2.1) (fun m d => Bo m d.1 d.2.1 d.2.2.1) (fun d => Dj d.1 d.2.1 d.2.2.1) Jm Lr trivial (fun f NX d => by unfold Cs; simp only [Ay, Ba, Ar, Option.bind_assoc, Option.bind_none, Option.bind_some]) (fun _ _ _ => by kernel_rfl)
theorem Ls : D4 Try.prog 102 sd_spec_l3Parts :=
 B9 (pat := pa_spec_l3Parts) [co_spec_l3Parts_4] M2 Lr ⟨Qv, trivial⟩ Try.func102 (de := fun x => Hq x.1 x.2.1) (fun x r h => D6 (Tl x.1 x.2.1) h) fun _ => by kernel_rfl
def Iz (e : ByteArray) (life first w : Int) : Option (List ByteArray) := if e.size ≤ 1048576 then some (Lw e life first w) else none
def Eg (v1 v2 v3 : Int) (v10 : List ByteArray) (v11 : Int) (r0 : List ByteArray) : Nat := (nI v10.length - v11).toNat + 1
def x5 : Sig := ⟨[.rd .str, .rd tI, .rd tI, .rd tI], [none, none, none, none], [.own 9 .str], [none]⟩
noncomputable def sd_spec_Cut : SD := ⟨x5, fun x => (Iz x.1 x.2.1 x.2.2.1 x.2.2.2.1).bind fun r => some ((r, ()), (()))⟩
noncomputable def ta_spec_Cut : Tb := tb [(28, sd_spec_FormPage), (86, sd_spec_l1Width), (102, sd_spec_l3Parts)]
def pa_spec_Cut : Nat → Pat × (Nat → Pat) := I4 [(9, ⟨[.row 9 0 9 .str, .sl 10 0 .str], [(1, .lf (.d tI)), (2, .lf (.d tI)), (3, .lf (.d tI)), (9, .lf (.row 0)), (10, .lf (.d (.sl .str))), (11, .lf (.d tI))], [.row 9 .str]⟩, [(2, ⟨[.row 9 0 9 .str], [(9, .lf (.row 0))], [.row 9 .str]⟩)])]
noncomputable def co_spec_Cut_9 : Code := (Aw (Cf Try.f41)).getD 0 .skip
noncomputable def Fh {R : Type}  (NX : ((Int) × (Int) × (Int) × (List ByteArray) × (Int) × (List ByteArray) × Unit) → Option R) (X2 : ((List ByteArray) × Unit) → Option R) (v1 : Int) (v2 : Int) (v3 : Int) (v10 : List ByteArray) (v11 : Int) (r0 : List ByteArray) : Option R :=
 bif decide (v11 < nI v10.length) then bif v11 == IntKind.i64.wrap (nI v10.length - 1) then bif decide (0 ≤ v11) then bif decide (v11 < nI v10.length) then bif decide ((r0.length + [Ct (2, v1, IntKind.i64.wrap (v2 + v11), v10.getD v11.toNat (ByteArray.mk #[]), ()) v3].length) * 16 ≤ 140737488355328) then NX (v1, v2, v3, v10, IntKind.i64.wrap (v11 + 1), r0 ++ [Ct (2, v1, IntKind.i64.wrap (v2 + v11), v10.getD v11.toNat (ByteArray.mk #[]), ()) v3], ()) else none else none else none else bif decide (0 ≤ v11) then bif decide (v11 < nI v10.length) then bif decide ((r0.length + [Ct (1, v1, IntKind.i64.wrap (v2 + v11), v10.getD v11.toNat (ByteArray.mk #[]), ()) v3].length) * 16 ≤ 140737488355328) then NX (v1, v2, v3, v10, IntKind.i64.wrap (v11 + 1), r0 ++ [Ct (1, v1, IntKind.i64.wrap (v2 + v11), v10.getD v11.toNat (ByteArray.mk #[]), ()) v3], ()) else none else none else none else X2 (r0, ())
noncomputable def B0 : Nat → (Int) → (Int) → (Int) → (List ByteArray) → (Int) → (List ByteArray) →  Option ((List ByteArray) × Unit)
 | 0, _, _, _, _, _, _ => none
 | m + 1, v1, v2, v3, v10, v11, r0 => Fh  (fun d => B0 m d.1 d.2.1 d.2.2.1 d.2.2.2.1 d.2.2.2.2.1 d.2.2.2.2.2.1) (fun d => some (d)) v1 v2 v3 v10 v11 r0
noncomputable def M3 (a0 : ByteArray) (a1 : Int) (a2 : Int) (a3 : Int) : Option ((((List ByteArray) × Unit) × (Unit))) :=
 (Dh a3).bind fun val => bif !val.1.1 then some (([], ()), ()) else bif decide (a1 < 1) then some (([], ()), ()) else bif decide (a1 > 60000) then some (([], ()), ()) else bif decide (a2 < 1) then some (([], ()), ()) else bif decide (a2 > 1000000000) then some (([], ()), ()) else ((C7 a0 a3).bind fun val => some ((val, ()), ())).bind fun val => bif decide (nI (List.length val.1.1) > IntKind.i64.wrap (IntKind.i64.wrap (1000000000 - a2) + 1)) then some (([], ()), ()) else ((fun d => B0 (Eg d.1 d.2.1 d.2.2.1 d.2.2.2.1 d.2.2.2.2.1 d.2.2.2.2.2.1) d.1 d.2.1 d.2.2.1 d.2.2.2.1 d.2.2.2.2.1 d.2.2.2.2.2.1) (a1, a2, a3, val.1.1, 0, [], ())).bind fun val => some (val, ())
theorem x6 (a0 : ByteArray) (a1 : Int) (a2 : Int) (a3 : Int) r (h : Iz a0 a1 a2 a3 = some r) : M3 a0 a1 a2 a3 = some ((r, ()), (())) := by
 unfold Iz at h
 split at h
 rotate_left
 ·cases h
 rename_i hc
 cases h
 unfold M3 Lw
 refine Sz (wid a3) ?_
 rw [Afb a1]
 show (bif !Cb a3 1 8 then _ else (bif Cb a1 1 60000 then _ else _)) = _
 cases hw : Cb a3 1 8 with
 | false => rfl
 | true =>
  obtain ⟨k1, k2⟩ := Ei hw
  have hp := G2 (s := a0) hw
  have hP : Cl a0.size a3 = ((Ag a0 a3).length : Int) := by unfold Cl; rw [hw]; exact hp.symm
  have hlen : (Ag a0 a3).length ≤ a0.size + 1 := Jg _ _ _
  have h1 : 1 ≤ (Ag a0 a3).length := by
   have : (1 : Int) ≤ ((Ag a0 a3).length : Int) := by rw [hp]; split <;> omega
   omega
  have n1 : C7 a0 a3 = some (Ag a0 a3) := if_pos ⟨by omega, k1, k2⟩
  rw [hP]
  cases hl : Cb a1 1 60000 with
  | false => rfl
  | true =>
   by_cases q1 : a2 < 1
   ·rw [decide_eq_true q1, decide_eq_false (show ¬ 1 ≤ a2 by omega)]; rfl
   ·rw [decide_eq_false q1, decide_eq_true (show 1 ≤ a2 by omega)]
    by_cases q0 : a2 > 1000000000
    ·rw [decide_eq_true q0, decide_eq_false (show ¬ a2 ≤ 1000000000 - ((Ag a0 a3).length : Int) + 1 by omega)]; rfl
    ·rw [decide_eq_false q0]
     refine Sz (Sz n1 rfl) ?_
     show (bif decide (nI (Ag a0 a3).length > IntKind.i64.wrap (IntKind.i64.wrap (1000000000 - a2) + 1)) then _ else (Option.bind (B0 (Eg a1 a2 a3 (Ag a0 a3) 0 []) a1 a2 a3 (Ag a0 a3) 0 []) _)) = _
     rw [Ac (n := 1000000000 - a2) (by omega) (by omega), Ac (n := 1000000000 - a2 + 1) (by omega) (by omega)]
     simp only [nI]
     by_cases q2 : a2 > 1000000000 - ((Ag a0 a3).length : Int) + 1
     ·rw [decide_eq_true (show ((Ag a0 a3).length : Int) > 1000000000 - a2 + 1 by omega), decide_eq_false (show ¬ a2 ≤ 1000000000 - ((Ag a0 a3).length : Int) + 1 by omega)]; rfl
     ·rw [decide_eq_false (show ¬ ((Ag a0 a3).length : Int) > 1000000000 - a2 + 1 by omega), decide_eq_true (show a2 ≤ 1000000000 - ((Ag a0 a3).length : Int) + 1 by omega)]
      generalize Ag a0 a3 = P at *
      have hL := Qi P.length (fun i r => r.length = i) (fun i r => r ++ [A8 ((if i + 1 = P.length then 2 else 1), a1, a2 + (i : Int), P.getD i z0, ()) a3]) (g := fun m i r => B0 m a1 a2 a3 P i r) (ok := fun r => (r, ())) (fun m i r hi hr => by
       show B0 (m + 1) a1 a2 a3 P i r = _
       simp only [B0, Fh]
       rw [cLt hi, Rr, wI (show i < 4611686018427387904 by omega), Int.toNat_natCast, Ac (n := a2 + (i : Int)) (by omega) (by omega), Ac (n := nI P.length - 1) (by simp only [nI]; omega) (by simp only [nI]; omega), List.length_singleton, List.length_singleton, decide_eq_true (show (r.length + 1) * 16 ≤ 140737488355328 by omega)]
       by_cases e : i + 1 = P.length
       ·rw [show ((i : Int) == nI P.length - 1) = true from beq_iff_eq.2 (by simp only [nI]; omega), if_pos e]; rfl
       ·rw [show ((i : Int) == nI P.length - 1) = false from beq_eq_false_iff_ne.2 (by simp only [nI]; omega), if_neg e]; rfl) (fun m r _ => by
       show B0 (m + 1) a1 a2 a3 P (P.length : Int) r = _
       simp only [B0, Fh]
       rw [Aa4]
       rfl) (fun i r hi hr => by rw [List.length_append, List.length_singleton, hr]) P.length (Eg a1 a2 a3 P 0 []) 0 [] (by omega) (by simp only [Eg, nI]; omega) rfl
      rw [Yv (fun i => A8 ((if i + 1 = P.length then 2 else 1), a1, a2 + (i : Int), P.getD i z0, ()) a3), List.nil_append, ← Jf] at hL
      exact Sz hL rfl
noncomputable def Oa {R : Type} (k : Kt R) := (Ph (pa_spec_Cut 9) (.exit 0) 2 k)
noncomputable def Wl {R : Type} : Lt R pa_spec_Cut := (Ho (pat := pa_spec_Cut) 9 (fun d k => (B0 (Eg d.1 d.2.1 d.2.2.1 d.2.2.2.1 d.2.2.2.2.1 d.2.2.2.2.2.1) d.1 d.2.1 d.2.2.1 d.2.2.2.1 d.2.2.2.2.1 d.2.2.2.2.2.1).bind (Oa k)) Lk)
theorem S4 : Az Try.prog ta_spec_Cut := B8 ⟨R8, Fq, Ls, trivial⟩
theorem Xd {R : Type} : Bg Try.prog R 71 0 pa_spec_Cut Wl co_spec_Cut_9 :=
 Ed (cfg := ⟨ta_spec_Cut, 0, 71, pa_spec_Cut⟩) 9 [] (fun NX X d => Fh  NX X d.1 d.2.1 d.2.2.1 d.2.2.2.1 d.2.2.2.2.1 d.2.2.2.2.2.1) (fun m d => B0 m d.1 d.2.1 d.2.2.1 d.2.2.2.1 d.2.2.2.2.1 d.2.2.2.2.2.1) (fun d => Eg d.1 d.2.1 d.2.2.1 d.2.2.2.1 d.2.2.2.2.1 d.2.2.2.2.2.1) Oa S4 trivial (fun f NX d => by unfold Fh; simp only [Ay, Ba, Ar, Option.bind_assoc, Option.bind_none, Option.bind_some]) (fun _ _ _ => by kernel_rfl)
theorem x7 : D4 Try.prog 41 sd_spec_Cut :=
 B9 (pat := pa_spec_Cut) [co_spec_Cut_9] Wl S4 ⟨Xd, trivial⟩ Try.func41 (de := fun x => M3 x.1 x.2.1 x.2.2.1 x.2.2.2.1) (fun x r h => D6 (x6 x.1 x.2.1 x.2.2.1 x.2.2.2.1) h) fun _ => by kernel_rfl
def Dl (s : ByteArray) (w : Int) : Option Int := if s.size ≤ 1099511627776 then some (bif Cb w 1 8 then ((Ag s w).length : Int) else 0) else none
def Xe : Sig := ⟨[.rd .str, .rd tI], [none, none], [.rd tI], [none]⟩
noncomputable def sd_spec_Pages : SD := ⟨Xe, fun x => (Dl x.1 x.2.1).bind fun r => some ((r, ()), (()))⟩
noncomputable def Jx (a0 : ByteArray) (a1 : Int) : Option ((((Int) × Unit) × (Unit))) :=
 (Dh a1).bind fun val => bif !val.1.1 then some ((0, ()), ()) else ((C7 a0 a1).bind fun val => some ((val, ()), ())).bind fun val => some ((nI (List.length val.1.1), ()), ())
theorem Xf (a0 : ByteArray) (a1 : Int) r (h : Dl a0 a1 = some r) : Jx a0 a1 = some ((r, ()), (())) := by
 unfold Dl at h
 split at h
 ·rename_i hc
  cases h
  unfold Jx
  refine Sz (wid a1) ?_
  show (bif !Cb a1 1 8 then _ else _) = _
  cases hw : Cb a1 1 8 with
  | false => rfl
  | true =>
   have n1 : C7 a0 a1 = some (Ag a0 a1) := if_pos ⟨hc, Ei hw⟩
   simp only [n1, Option.bind_some, Bool.not_true, cond_false, cond_true]
   try rfl
 ·cases h
theorem Xg : D4 Try.prog 43 sd_spec_Pages :=
 B9 (pat := Hj) [] Lk (B8 (l := [(86, sd_spec_l1Width), (102, sd_spec_l3Parts)]) ⟨Fq, Ls, trivial⟩) trivial Try.func43 (de := fun x => Jx x.1 x.2.1) (fun x r h => D6 (Xf x.1 x.2.1) h) fun _ => by kernel_rfl
def D0 (n : Int) : Dk := K9 n
def Tm : Sig := ⟨[.rd tI], [none], [.own 9 .str, .own 140 Hm], [some 2]⟩
noncomputable def sd_impl_NewDisk : SD := ⟨Tm, fun x => some (((D0 x.1).1, (D0 x.1).2.1, ()), (()))⟩
noncomputable def ta_impl_NewDisk : Tb := tb [(79, Ej), (83, sd_impl_in)]
def pa_impl_NewDisk : Nat → Pat × (Nat → Pat) := I4 [(6, ⟨[.boxRow 2 0 9 .str, .boxRow 2 1 140 Hm, .boxRow 3 0 9 .str, .boxRow 3 1 140 Hm], [(0, .lf (.d tI)), (2, .lf (.ptr 0 0)), (3, .lf (.ptr 1 0)), (4, .lf (.d tI))], [.box 60 [.row 2, .row 3], .box 60 [.row 4, .row 5], .row 9 .str, .row 140 Hm, .row 9 .str, .row 140 Hm]⟩, [(2, ⟨[.boxRow 2 0 9 .str, .boxRow 2 1 140 Hm, .boxRow 3 0 9 .str, .boxRow 3 1 140 Hm], [(2, .lf (.ptr 0 0)), (3, .lf (.ptr 1 0))], [.box 60 [.row 2, .row 3], .box 60 [.row 4, .row 5], .row 9 .str, .row 140 Hm, .row 9 .str, .row 140 Hm]⟩)])]
noncomputable def co_impl_NewDisk_6 : Code := (Aw (Cf Try.f44)).getD 0 .skip
def B3 (v0 : Int) (v4 : Int) (r2 : List ByteArray) (r3 : List Wr) (r4 : List ByteArray) (r5 : List Wr) : Nat := (v0 - v4).toNat + 1
noncomputable def Dm {R : Type}  (NX : ((Int) × (Int) × (List ByteArray) × (List Wr) × (List ByteArray) × (List Wr) × Unit) → Option R) (X2 : ((List ByteArray) × (List Wr) × (List ByteArray) × (List Wr) × Unit) → Option R) (v0 : Int) (v4 : Int) (r2 : List ByteArray) (r3 : List Wr) (r4 : List ByteArray) (r5 : List Wr) : Option R :=
 bif decide (v4 < v0) then ((Ju (ByteArray.mk #[0]) 64).bind fun val => some ((val, ()), ())).bind fun val => bif decide ((r4.length + [val.1.1].length) * 16 ≤ 140737488355328) then NX (v0, IntKind.i64.wrap (v4 + 1), r2, r3, r4 ++ [val.1.1], r5, ()) else none else X2 (r2, r3, r4, r5, ())
noncomputable def A1 : Nat → (Int) → (Int) → (List ByteArray) → (List Wr) → (List ByteArray) → (List Wr) →  Option ((List ByteArray) × (List Wr) × (List ByteArray) × (List Wr) × Unit)
 | 0, _, _, _, _, _, _ => none
 | m + 1, v0, v4, r2, r3, r4, r5 => Dm  (fun d => A1 m d.1 d.2.1 d.2.2.1 d.2.2.2.1 d.2.2.2.2.1 d.2.2.2.2.2.1) (fun d => some (d)) v0 v4 r2 r3 r4 r5
noncomputable def Hr (a0 : Int) : Option ((Dk × (Unit))) :=
 bif !Bp a0 8 200 then some (([], [], ()), ()) else ((fun d => A1 (B3 d.1 d.2.1 d.2.2.1 d.2.2.2.1 d.2.2.2.2.1 d.2.2.2.2.2.1) d.1 d.2.1 d.2.2.1 d.2.2.2.1 d.2.2.2.2.1 d.2.2.2.2.2.1) (a0, 0, [], [], [], [], ())).bind fun val => some (val.2.2, ())
theorem Ai2 : Ju (ByteArray.mk #[0]) 64 = some zS := by
 unfold Ju
 rw [if_pos (by decide)]
 decide +kernel
theorem Tn (a0 : Int) : Hr a0 = some (((D0 a0).1, (D0 a0).2.1, ()), (())) := by
 unfold Hr D0 K9
 show (bif !Cb a0 8 200 then _ else _) = _
 cases hin : Cb a0 8 200 with
 | false => rfl
 | true =>
  have k1 := of_decide_eq_true (Dw hin).1
  have k2 := of_decide_eq_true (Dw hin).2
  obtain ⟨n, rfl⟩ : ∃ n : Nat, a0 = (n : Int) := ⟨a0.toNat, by omega⟩
  have hL := n5 (n := n) (fun _ => zS) (g := fun m i r => A1 m n i [] [] r []) (ok := fun r => ([], [], r, [], ())) (fun m i r hi hr => by
   show A1 (m + 1) n i [] [] r [] = _
   simp only [A1, Dm]
   have c1 : (i : Int) < (n : Int) := by omega
   have c2 : (List.length r + List.length [zS]) * 16 ≤ 140737488355328 := by simp; omega
   rw [decide_eq_true c1, Ai2, wI (show i < 4611686018427387904 by omega)]
   simp only [Option.bind_some, cond_true]
   rw [decide_eq_true c2]
   rfl) (fun m r => by
   show A1 (m + 1) n n [] [] r [] = _
   simp only [A1, Dm]
   have c1 : ¬ (n : Int) < (n : Int) := by omega
   rw [decide_eq_false c1]
   rfl) (B3 n 0 [] [] [] []) 0 [] (by omega) (by simp [B3]) rfl
  have hL' : A1 (B3 n 0 [] [] [] []) n 0 [] [] [] [] = _ := hL
  show (A1 (B3 n 0 [] [] [] []) n 0 [] [] [] []).bind _ = _
  rw [hL', Sy, Nat.sub_zero]
  rfl
noncomputable def Jn {R : Type} (k : Kt R) := (Ph (pa_impl_NewDisk 6) (.exit 0) 2 k)
noncomputable def M4 {R : Type} : Lt R pa_impl_NewDisk := (Ho (pat := pa_impl_NewDisk) 6 (fun d k => (A1 (B3 d.1 d.2.1 d.2.2.1 d.2.2.2.1 d.2.2.2.2.1 d.2.2.2.2.2.1) d.1 d.2.1 d.2.2.1 d.2.2.2.1 d.2.2.2.2.1 d.2.2.2.2.2.1).bind (Jn k)) Lk)
theorem Lu : Az Try.prog ta_impl_NewDisk := B8 ⟨Jh, Ea, trivial⟩
theorem Qw {R : Type} : Bg Try.prog R 22 0 pa_impl_NewDisk M4 co_impl_NewDisk_6 :=
 Ed (cfg := ⟨ta_impl_NewDisk, 0, 22, pa_impl_NewDisk⟩) 6 [] (fun NX X d => Dm  NX X d.1 d.2.1 d.2.2.1 d.2.2.2.1 d.2.2.2.2.1 d.2.2.2.2.2.1) (fun m d => A1 m d.1 d.2.1 d.2.2.1 d.2.2.2.1 d.2.2.2.2.1 d.2.2.2.2.2.1) (fun d => B3 d.1 d.2.1 d.2.2.1 d.2.2.2.1 d.2.2.2.2.1 d.2.2.2.2.2.1) Jn Lu trivial (fun f NX d => by unfold Dm; simp only [Ay, Ba, Ar, Option.bind_assoc, Option.bind_none, Option.bind_some]) (fun _ _ _ => by kernel_rfl)
theorem To : D4 Try.prog 44 sd_impl_NewDisk :=
 B9 (pat := pa_impl_NewDisk) [co_impl_NewDisk_6] M4 Lu ⟨Qw, trivial⟩ Try.func44 (de := fun x => Hr x.1) (fun x r h => (Tn x.1).trans h) fun _ => by kernel_rfl
def D1 (d : Dk) : Bool := Dv d
def Qx : Sig := ⟨[.rd yDk], [some 2], [.rd .bool], [none]⟩
noncomputable def sd_impl_ValidDisk : SD := ⟨Qx, fun x => some (((D1 x.1), ()), (()))⟩
noncomputable def ta_impl_ValidDisk : Tb := tb [(83, sd_impl_in)]
def pa_impl_ValidDisk : Nat → Pat × (Nat → Pat) := I4 [(5, ⟨[.sl 19 0 .str, .boxSl 1 0 .str, .boxSl 1 1 Hm], [(1, .lf (.ptr 0 0)), (19, .lf (.d (.sl .str))), (20, .lf (.d tI)), (21, .lf (.d tI))], [.box 60 [.d (.sl .str), .d (.sl Hm)]]⟩, [(2, ⟨[.boxSl 1 0 .str, .boxSl 1 1 Hm], [(1, .lf (.ptr 0 0))], [.box 60 [.d (.sl .str), .d (.sl Hm)]]⟩), (1, ⟨[], [(2, .lf (.d .bool))], []⟩)]), (11, ⟨[.sl 30 0 Hm, .boxSl 1 0 .str, .boxSl 1 1 Hm], [(1, .lf (.ptr 0 0)), (30, .lf (.d (.sl Hm))), (31, .lf (.d tI)), (32, .lf (.d tI))], [.box 60 [.d (.sl .str), .d (.sl Hm)]]⟩, [(4, p0), (1, ⟨[], [(2, .lf (.d .bool))], []⟩)])]
noncomputable def co_impl_ValidDisk_5 : Code := (Aw (Cf Try.f103)).getD 0 .skip
noncomputable def co_impl_ValidDisk_11 : Code := (Aw (Cf Try.f103)).getD 1 .skip
def Bc (v30 : List Wr) (v31 : Int) (v32 : Int) (b0_0 : List ByteArray) (b0_1 : List Wr) : Nat := (v31 - v32).toNat + 1
noncomputable def Cp {R : Type}  (NX : ((List Wr) × (Int) × (Int) × (List ByteArray) × (List Wr) × Unit) → Option R) (X4 : (Unit) → Option R) (X1 : ((Bool) × Unit) → Option R) (v30 : List Wr) (v31 : Int) (v32 : Int) (b0_0 : List ByteArray) (b0_1 : List Wr) : Option R :=
 bif decide (v32 < v31) then bif decide (0 ≤ v32) then bif decide (v32 < nI v30.length) then bif !Bp (v30.getD v32.toNat (0, ByteArray.mk #[], ())).1 0 (IntKind.i64.wrap (nI b0_0.length - 1)) then X1 (false, ()) else bif nI (ByteArray.size (v30.getD v32.toNat (0, ByteArray.mk #[], ())).2.1) != 64 then X1 (false, ()) else NX (v30, v31, IntKind.i64.wrap (v32 + 1), b0_0, b0_1, ()) else none else none else X4 PUnit.unit
noncomputable def Aq : Nat → (List Wr) → (Int) → (Int) → (List ByteArray) → (List Wr) →  Option ((Unit) ⊕ ((Bool) × Unit))
 | 0, _, _, _, _, _ => none
 | m + 1, v30, v31, v32, b0_0, b0_1 => Cp  (fun d => Aq m d.1 d.2.1 d.2.2.1 d.2.2.2.1 d.2.2.2.2.1) (fun d => some (.inl (d))) (fun d => some (.inr (d))) v30 v31 v32 b0_0 b0_1
def Bm (v19 : List ByteArray) (v20 : Int) (v21 : Int) (b0_0 : List ByteArray) (b0_1 : List Wr) : Nat := (v20 - v21).toNat + 1
noncomputable def Cw {R : Type}  (NX : ((List ByteArray) × (Int) × (Int) × (List ByteArray) × (List Wr) × Unit) → Option R) (X2 : Dk → Option R) (X1 : ((Bool) × Unit) → Option R) (v19 : List ByteArray) (v20 : Int) (v21 : Int) (b0_0 : List ByteArray) (b0_1 : List Wr) : Option R :=
 bif decide (v21 < v20) then bif decide (0 ≤ v21) then bif decide (v21 < nI v19.length) then bif nI (ByteArray.size (v19.getD v21.toNat (ByteArray.mk #[]))) != 64 then X1 (false, ()) else NX (v19, v20, IntKind.i64.wrap (v21 + 1), b0_0, b0_1, ()) else none else none else X2 (b0_0, b0_1, ())
noncomputable def At : Nat → (List ByteArray) → (Int) → (Int) → (List ByteArray) → (List Wr) →  Option (Dk ⊕ ((Bool) × Unit))
 | 0, _, _, _, _, _ => none
 | m + 1, v19, v20, v21, b0_0, b0_1 => Cw  (fun d => At m d.1 d.2.1 d.2.2.1 d.2.2.2.1 d.2.2.2.2.1) (fun d => some (.inl (d))) (fun d => some (.inr (d))) v19 v20 v21 b0_0 b0_1
noncomputable def Gk (a0 : Dk) : Option ((((Bool) × Unit) × (Unit))) :=
 bif !Bp (nI (List.length a0.1)) 8 200 then some ((false, ()), ()) else bif decide (nI (List.length a0.2.1) > 300) then some ((false, ()), ()) else ((fun d => At (Bm d.1 d.2.1 d.2.2.1 d.2.2.2.1 d.2.2.2.2.1) d.1 d.2.1 d.2.2.1 d.2.2.2.1 d.2.2.2.2.1) (a0.1, nI (List.length a0.1), 0, a0)).bind fun val => Ij (fun d => ((fun d => Aq (Bc d.1 d.2.1 d.2.2.1 d.2.2.2.1 d.2.2.2.2.1) d.1 d.2.1 d.2.2.1 d.2.2.2.1 d.2.2.2.2.1) (d.2.1, nI (List.length d.2.1), 0, d)).bind fun val => Ij (fun d => some ((true, ()), ())) (fun d => some (d, ())) val) (fun d => some (d, ())) val
theorem Qy (a0 : Dk) : Gk a0 = some ((D1 a0, ()), ()) := by
 unfold Gk D1 Dv
 have c1 : decide (nI a0.2.1.length > 300) = !decide (a0.2.1.length ≤ 300) := Ahp _ 300
 rw [c1]
 show (bif !Cb (a0.1.length : Int) 8 200 then _ else _) = _
 cases hin : Cb (a0.1.length : Int) 8 200 with
 | false => rfl
 | true =>
  have hlen : a0.1.length ≤ 200 := by have := of_decide_eq_true (Dw hin).2; omega
  by_cases hp : a0.2.1.length ≤ 300
  ·rw [decide_eq_true hp]
   have hL := Qg (n := a0.1.length) (fun i => decide ((a0.1.getD i z0).size = 64)) (g := fun m i => At m a0.1 (nI a0.1.length) i a0.1 a0.2.1) (ok := .inl (a0.1, a0.2.1, ())) (bad := .inr (false, ())) (fun m i hi => by
    show At (m + 1) a0.1 (nI a0.1.length) i a0.1 a0.2.1 = _
    simp only [At, Cw]
    have g1 : (nI (ByteArray.size (List.getD a0.1 i (ByteArray.mk #[]))) != 64) = !decide ((a0.1.getD i z0).size = 64) := Aiy _ 64
    rw [cLt hi, Rr, wI (show i < 4611686018427387904 by omega), Int.toNat_natCast, g1]
    cases decide ((a0.1.getD i z0).size = 64) <;> rfl) (fun m => by
    show At (m + 1) a0.1 (nI a0.1.length) (a0.1.length : Int) a0.1 a0.2.1 = _
    simp only [At, Cw]
    rw [Aa4]
    rfl) (Bm a0.1 (nI a0.1.length) 0 a0.1 a0.2.1) 0 (by omega) (by simp [Bm, nI])
   have hL' : At (Bm a0.1 (nI a0.1.length) 0 a0.1 a0.2.1) a0.1 (nI a0.1.length) 0 a0.1 a0.2.1 = _ := hL
   have hM := Qg (n := a0.2.1.length) (fun i => m8 a0.1.length (a0.2.1.getD i zW)) (g := fun m i => Aq m a0.2.1 (nI a0.2.1.length) i a0.1 a0.2.1) (ok := .inl ()) (bad := .inr (false, ())) (fun m i hi => by
    show Aq (m + 1) a0.2.1 (nI a0.2.1.length) i a0.1 a0.2.1 = _
    simp only [Aq, Cp]
    have g1 : (nI (ByteArray.size (List.getD a0.2.1 i (0, ByteArray.mk #[], ())).2.1) != 64) = !decide ((a0.2.1.getD i zW).2.1.size = 64) := Aiy _ 64
    have hw : IntKind.i64.wrap (nI a0.1.length - 1) = (a0.1.length : Int) - 1 := Ac (by simp only [nI]; omega) (by simp only [nI]; omega)
    rw [cLt hi, Rr, wI (show i < 4611686018427387904 by omega), Int.toNat_natCast, g1, hw]
    have g2 : Bp (List.getD a0.2.1 i (0, ByteArray.mk #[], ())).1 0 ((a0.1.length : Int) - 1) = (decide (0 ≤ (a0.2.1.getD i zW).1) && decide ((a0.2.1.getD i zW).1 < (a0.1.length : Int))) := by
     show (decide (0 ≤ (a0.2.1.getD i zW).1) && decide ((a0.2.1.getD i zW).1 ≤ (a0.1.length : Int) - 1)) = _
     congr 1
     exact decide_eq_decide.2 (by omega)
    rw [g2]
    unfold m8
    cases decide (0 ≤ (a0.2.1.getD i zW).1) <;> cases decide ((a0.2.1.getD i zW).1 < (a0.1.length : Int)) <;> cases decide ((a0.2.1.getD i zW).2.1.size = 64) <;> rfl) (fun m => by
    show Aq (m + 1) a0.2.1 (nI a0.2.1.length) (a0.2.1.length : Int) a0.1 a0.2.1 = _
    simp only [Aq, Cp]
    rw [Aa4]
    rfl) (Bc a0.2.1 (nI a0.2.1.length) 0 a0.1 a0.2.1) 0 (by omega) (by simp [Bc, nI])
   have hM' : Aq (Bc a0.2.1 (nI a0.2.1.length) 0 a0.1 a0.2.1) a0.2.1 (nI a0.2.1.length) 0 a0.1 a0.2.1 = _ := hM
   show (At (Bm a0.1 (nI a0.1.length) 0 a0.1 a0.2.1) a0.1 (nI a0.1.length) 0 a0.1 a0.2.1).bind _ = _
   rw [hL']
   rw [Nat.sub_zero] at hM' ⊢
   cases (List.range' 0 a0.1.length).all (fun i => decide ((a0.1.getD i z0).size = 64)) with
   | false => rfl
   | true =>
    show (Aq (Bc a0.2.1 (nI a0.2.1.length) 0 a0.1 a0.2.1) a0.2.1 (nI a0.2.1.length) 0 a0.1 a0.2.1).bind _ = _
    rw [hM']
    cases (List.range' 0 a0.2.1.length).all (fun i => m8 a0.1.length (a0.2.1.getD i zW)) <;> rfl
  ·rw [decide_eq_false hp]
   rfl
noncomputable def H1 {R : Type} (k : Kt R) := (Ij (Ph (pa_impl_ValidDisk 5) (.exit 0) 2 k) (Ph (pa_impl_ValidDisk 5) .ret 1 k))
noncomputable def Hl {R : Type} (k : Kt R) := (Ij (Ph (pa_impl_ValidDisk 11) (.exit 2) 4 k) (Ph (pa_impl_ValidDisk 11) .ret 1 k))
noncomputable def Ha {R : Type} : Lt R pa_impl_ValidDisk := (Ho (pat := pa_impl_ValidDisk) 5 (fun d k => (At (Bm d.1 d.2.1 d.2.2.1 d.2.2.2.1 d.2.2.2.2.1) d.1 d.2.1 d.2.2.1 d.2.2.2.1 d.2.2.2.2.1).bind (H1 k)) (Ho (pat := pa_impl_ValidDisk) 11 (fun d k => (Aq (Bc d.1 d.2.1 d.2.2.1 d.2.2.2.1 d.2.2.2.2.1) d.1 d.2.1 d.2.2.1 d.2.2.2.1 d.2.2.2.2.1).bind (Hl k)) Lk))
theorem Gl : Az Try.prog ta_impl_ValidDisk := B8 ⟨Ea, trivial⟩
theorem M5 {R : Type} : Bg Try.prog R 51 0 pa_impl_ValidDisk Ha co_impl_ValidDisk_11 :=
 Ed (cfg := ⟨ta_impl_ValidDisk, 0, 51, pa_impl_ValidDisk⟩) 11 [] (fun NX X d => Cp  NX (fun e => X (.inl (e))) (fun e => X (.inr (e))) d.1 d.2.1 d.2.2.1 d.2.2.2.1 d.2.2.2.2.1) (fun m d => Aq m d.1 d.2.1 d.2.2.1 d.2.2.2.1 d.2.2.2.2.1) (fun d => Bc d.1 d.2.1 d.2.2.1 d.2.2.2.1 d.2.2.2.2.1) Hl Gl trivial (fun f NX d => by unfold Cp; simp only [Ay, Ba, Ar, Option.bind_assoc, Option.bind_none, Option.bind_some]) (fun _ _ _ => by kernel_rfl)
theorem Nu {R : Type} : Bg Try.prog R 51 0 pa_impl_ValidDisk Ha co_impl_ValidDisk_5 :=
 Ed (cfg := ⟨ta_impl_ValidDisk, 0, 51, pa_impl_ValidDisk⟩) 5 [] (fun NX X d => Cw  NX (fun e => X (.inl (e))) (fun e => X (.inr (e))) d.1 d.2.1 d.2.2.1 d.2.2.2.1 d.2.2.2.2.1) (fun m d => At m d.1 d.2.1 d.2.2.1 d.2.2.2.1 d.2.2.2.2.1) (fun d => Bm d.1 d.2.1 d.2.2.1 d.2.2.2.1 d.2.2.2.2.1) H1 Gl trivial (fun f NX d => by unfold Cw; simp only [Ay, Ba, Ar, Option.bind_assoc, Option.bind_none, Option.bind_some]) (fun _ _ _ => by kernel_rfl)
theorem Jo : D4 Try.prog 103 sd_impl_ValidDisk :=
 B9 (pat := pa_impl_ValidDisk) [co_impl_ValidDisk_5, co_impl_ValidDisk_11] Ha Gl ⟨Nu, M5, trivial⟩ Try.func103 (de := fun x => Gk x.1) (fun x r h => (Qy x.1).trans h) fun _ => by kernel_rfl
def Ee (d : Dk) : Option Dk := if d.1.length ≤ 1000 ∧ d.2.1.length ≤ 1000 then some (d.1, d.2.1, ()) else none
def R9 : Sig := ⟨[.rd yDk], [some 2], [.own 9 .str, .own 140 Hm], [some 2]⟩
noncomputable def sd_impl_copyDisk : SD := ⟨R9, fun x => (Ee x.1).bind fun r => some ((r.1, r.2.1, ()), (()))⟩
noncomputable def Hb (a0 : Dk) : Option ((Dk × (Unit))) :=
 bif decide ((0 + List.length a0.1) * 16 ≤ 140737488355328) then bif decide ((0 + List.length a0.2.1) * 24 ≤ 140737488355328) then some (([] ++ a0.1, [] ++ a0.2.1, ()), ()) else none else none
theorem Sa (a0 : Dk) r (h : Ee a0 = some r) : Hb a0 = some ((r.1, r.2.1, ()), (())) := by
 unfold Ee at h
 split at h
 ·rename_i hc
  cases h
  unfold Hb
  rw [decide_eq_true (show (0 + a0.1.length) * 16 ≤ 140737488355328 by omega), decide_eq_true (show (0 + a0.2.1.length) * 24 ≤ 140737488355328 by omega)]
  rfl
 ·cases h
theorem Sb : D4 Try.prog 104 sd_impl_copyDisk :=
 B9 (pat := Hj) [] Lk (B8 (l := []) trivial) trivial Try.func104 (de := fun x => Hb x.1) (fun x r h => D6 (Sa x.1) h) fun _ => by kernel_rfl
def Bd (d : Dk) (ops : List Opn) (n : Int) : Option Dk := if ops.length ≤ 1099511627776 then some (Ka d ops n) else none
def Tp : Sig := ⟨[.rd yDk, .rd (.sl Aa3), .rd tI], [some 2, none, none], [.own 9 .str, .own 140 Hm], [some 2]⟩
noncomputable def sd_impl_Perform : SD := ⟨Tp, fun x => (Bd x.1 x.2.1 x.2.2.1).bind fun r => some ((r.1, r.2.1, ()), (()))⟩
noncomputable def ta_impl_Perform : Tb := tb [(83, sd_impl_in), (103, sd_impl_ValidDisk), (104, sd_impl_copyDisk)]
def pa_impl_Perform : Nat → Pat × (Nat → Pat) := I4 [(6, ⟨[.sl 1 0 Aa3, .boxRow 6 0 9 .str, .boxRow 6 1 140 Hm, .boxRow 7 0 9 .str, .boxRow 7 1 140 Hm], [(1, .lf (.d (.sl Aa3))), (2, .lf (.d tI)), (6, .lf (.ptr 0 0)), (7, .lf (.ptr 1 0)), (8, .lf (.d tI))], [.box 60 [.row 2, .row 3], .box 60 [.row 4, .row 5], .row 9 .str, .row 140 Hm, .row 9 .str, .row 140 Hm]⟩, [(2, ⟨[.boxRow 6 0 9 .str, .boxRow 6 1 140 Hm, .boxRow 7 0 9 .str, .boxRow 7 1 140 Hm], [(6, .lf (.ptr 0 0)), (7, .lf (.ptr 1 0))], [.box 60 [.row 2, .row 3], .box 60 [.row 4, .row 5], .row 9 .str, .row 140 Hm, .row 9 .str, .row 140 Hm]⟩)]), (11, ⟨[.sl 1 0 Aa3, .sl 36 0 Hm, .boxRow 6 0 9 .str, .boxRow 6 1 140 Hm, .boxRow 7 0 9 .str, .boxSl 7 1 Hm], [(1, .lf (.d (.sl Aa3))), (2, .lf (.d tI)), (6, .lf (.ptr 0 0)), (7, .lf (.ptr 1 0)), (8, .lf (.d tI)), (36, .lf (.d (.sl Hm))), (37, .lf (.d tI)), (38, .lf (.d tI))], [.box 60 [.row 2, .row 3], .box 60 [.row 4, .d (.sl Hm)], .row 9 .str, .row 140 Hm, .row 9 .str]⟩, [(4, ⟨[.sl 1 0 Aa3, .boxRow 6 0 9 .str, .boxRow 6 1 140 Hm, .boxRow 7 0 9 .str, .boxSl 7 1 Hm], [(1, .lf (.d (.sl Aa3))), (2, .lf (.d tI)), (6, .lf (.ptr 0 0)), (7, .lf (.ptr 1 0)), (8, .lf (.d tI))], [.box 60 [.row 2, .row 3], .box 60 [.row 4, .d (.sl Hm)], .row 9 .str, .row 140 Hm, .row 9 .str]⟩)])]
noncomputable def co_impl_Perform_6 : Code := (Aw (Cf Try.f45)).getD 0 .skip
noncomputable def co_impl_Perform_11 : Code := (Aw co_impl_Perform_6).getD 0 .skip
def C8 (v1 : List Opn) (v2 : Int) (v8 : Int) (v36 : List Wr) (v37 : Int) (v38 : Int) (b1_1 : List Wr) (r2 : List ByteArray) (r3 : List Wr) (r4 : List ByteArray) : Nat := (v37 - v38).toNat + 1
noncomputable def C9 {R : Type}  (NX : ((List Opn) × (Int) × (Int) × (List Wr) × (Int) × (Int) × (List Wr) × (List ByteArray) × (List Wr) × (List ByteArray) × Unit) → Option R) (X4 : ((List Opn) × (Int) × (Int) × (List Wr) × (List ByteArray) × (List Wr) × (List ByteArray) × Unit) → Option R) (v1 : List Opn) (v2 : Int) (v8 : Int) (v36 : List Wr) (v37 : Int) (v38 : Int) (b1_1 : List Wr) (r2 : List ByteArray) (r3 : List Wr) (r4 : List ByteArray) : Option R :=
 bif decide (v38 < v37) then bif decide (0 ≤ v38) then bif decide (v38 < nI v36.length) then bif decide (0 ≤ (v36.getD v38.toNat (0, ByteArray.mk #[], ())).1) then bif decide ((v36.getD v38.toNat (0, ByteArray.mk #[], ())).1 < nI r4.length) then bif decide (Int.toNat (v36.getD v38.toNat (0, ByteArray.mk #[], ())).1 < r4.length) then NX (v1, v2, v8, v36, v37, IntKind.i64.wrap (v38 + 1), b1_1, r2, r3, r4.set (Int.toNat (v36.getD v38.toNat (0, ByteArray.mk #[], ())).1) (v36.getD v38.toNat (0, ByteArray.mk #[], ())).2.1, ()) else none else none else none else none else none else X4 (v1, v2, v8, b1_1, r2, r3, r4, ())
noncomputable def A9 : Nat → (List Opn) → (Int) → (Int) → (List Wr) → (Int) → (Int) → (List Wr) → (List ByteArray) → (List Wr) → (List ByteArray) →  Option ((List Opn) × (Int) × (Int) × (List Wr) × (List ByteArray) × (List Wr) × (List ByteArray) × Unit)
 | 0, _, _, _, _, _, _, _, _, _, _ => none
 | m + 1, v1, v2, v8, v36, v37, v38, b1_1, r2, r3, r4 => C9  (fun d => A9 m d.1 d.2.1 d.2.2.1 d.2.2.2.1 d.2.2.2.2.1 d.2.2.2.2.2.1 d.2.2.2.2.2.2.1 d.2.2.2.2.2.2.2.1 d.2.2.2.2.2.2.2.2.1 d.2.2.2.2.2.2.2.2.2.1) (fun d => some (d)) v1 v2 v8 v36 v37 v38 b1_1 r2 r3 r4
noncomputable def Da (d : (List Opn) × (Int) × (Int) × (List Wr) × (Int) × (Int) × (List Wr) × (List ByteArray) × (List Wr) × (List ByteArray) × Unit) : Option ((List Opn) × (Int) × (Int) × (List Wr) × (List ByteArray) × (List Wr) × (List ByteArray) × Unit) := A9 (C8 d.1 d.2.1 d.2.2.1 d.2.2.2.1 d.2.2.2.2.1 d.2.2.2.2.2.1 d.2.2.2.2.2.2.1 d.2.2.2.2.2.2.2.1 d.2.2.2.2.2.2.2.2.1 d.2.2.2.2.2.2.2.2.2.1) d.1 d.2.1 d.2.2.1 d.2.2.2.1 d.2.2.2.2.1 d.2.2.2.2.2.1 d.2.2.2.2.2.2.1 d.2.2.2.2.2.2.2.1 d.2.2.2.2.2.2.2.2.1 d.2.2.2.2.2.2.2.2.2.1
def B4 (v1 : List Opn) (v2 : Int) (v8 : Int) (r2 : List ByteArray) (r3 : List Wr) (r4 : List ByteArray) (r5 : List Wr) : Nat := (v2 - v8).toNat + 1
noncomputable def Dn {R : Type} (LO11 : ((List Opn) × (Int) × (Int) × (List Wr) × (Int) × (Int) × (List Wr) × (List ByteArray) × (List Wr) × (List ByteArray) × Unit) → Option ((List Opn) × (Int) × (Int) × (List Wr) × (List ByteArray) × (List Wr) × (List ByteArray) × Unit)) (NX : ((List Opn) × (Int) × (Int) × (List ByteArray) × (List Wr) × (List ByteArray) × (List Wr) × Unit) → Option R) (X2 : ((List ByteArray) × (List Wr) × (List ByteArray) × (List Wr) × Unit) → Option R) (v1 : List Opn) (v2 : Int) (v8 : Int) (r2 : List ByteArray) (r3 : List Wr) (r4 : List ByteArray) (r5 : List Wr) : Option R :=
 bif decide (v8 < v2) then bif decide (v8 < nI v1.length) then bif decide (0 ≤ v8) then bif decide (v8 < nI v1.length) then bif (v1.getD v8.toNat (false, 0, ByteArray.mk #[], ())).1 then (LO11 (v1, v2, v8, r5, nI r5.length, 0, r5, r2, r3, r4, ())).bind fun val => NX (val.1, val.2.1, IntKind.i64.wrap (val.2.2.1 + 1), val.2.2.2.2.1, val.2.2.2.2.2.1, val.2.2.2.2.2.2.1, [], ()) else bif Bp (v1.getD v8.toNat (false, 0, ByteArray.mk #[], ())).2.1 0 (IntKind.i64.wrap (nI r4.length - 1)) then bif nI (ByteArray.size (v1.getD v8.toNat (false, 0, ByteArray.mk #[], ())).2.2.1) == 64 then bif decide (nI r5.length < 300) then bif decide ((r5.length + [(v1.getD v8.toNat (false, 0, ByteArray.mk #[], ())).2].length) * 24 ≤ 140737488355328) then NX (v1, v2, IntKind.i64.wrap (v8 + 1), r2, r3, r4, r5 ++ [(v1.getD v8.toNat (false, 0, ByteArray.mk #[], ())).2], ()) else none else NX (v1, v2, IntKind.i64.wrap (v8 + 1), r2, r3, r4, r5, ()) else NX (v1, v2, IntKind.i64.wrap (v8 + 1), r2, r3, r4, r5, ()) else NX (v1, v2, IntKind.i64.wrap (v8 + 1), r2, r3, r4, r5, ()) else none else none else X2 (r2, r3, r4, r5, ()) else X2 (r2, r3, r4, r5, ())
noncomputable def Au : Nat → (List Opn) → (Int) → (Int) → (List ByteArray) → (List Wr) → (List ByteArray) → (List Wr) →  Option ((List ByteArray) × (List Wr) × (List ByteArray) × (List Wr) × Unit)
 | 0, _, _, _, _, _, _, _ => none
 | m + 1, v1, v2, v8, r2, r3, r4, r5 => Dn Da (fun d => Au m d.1 d.2.1 d.2.2.1 d.2.2.2.1 d.2.2.2.2.1 d.2.2.2.2.2.1 d.2.2.2.2.2.2.1) (fun d => some (d)) v1 v2 v8 r2 r3 r4 r5
noncomputable def Hs (a0 : Dk) (a1 : List Opn) (a2 : Int) : Option ((Dk × (Unit))) :=
 bif !D1 a0 then some (([], [], ()), ()) else ((Ee a0).bind fun val => some (val, ())).bind fun val => ((fun d => Au (B4 d.1 d.2.1 d.2.2.1 d.2.2.2.1 d.2.2.2.2.1 d.2.2.2.2.2.1 d.2.2.2.2.2.2.1) d.1 d.2.1 d.2.2.1 d.2.2.2.1 d.2.2.2.2.1 d.2.2.2.2.2.1 d.2.2.2.2.2.2.1) (a1, a2, 0, [], [], val.1)).bind fun val => some (val.2.2, ())
theorem Abe (a1 : List Opn) (a2 : Int) (i : Int) (b : List Wr) {sec : List ByteArray} {ws : List Wr} (hp : ws.length ≤ 300) (hw : ∀ i, i < ws.length → 0 ≤ (ws.getD i zW).1 ∧ (ws.getD i zW).1 < (sec.length : Int)) :
  A9 (C8 a1 a2 i ws (nI ws.length) 0 b [] [] sec) a1 a2 i ws (nI ws.length) 0 b [] [] sec = some (a1, a2, i, b, [], [], Yn sec ws, ()) := by
 have hL := Yo (xs := ws) zW (fun s : List ByteArray => s.length = sec.length) (fun _ w s => s.set w.1.toNat w.2.1) (g := fun m i' s => A9 m a1 a2 i ws (nI ws.length) i' b [] [] s) (ok := fun s => (a1, a2, i, b, [], [], s, ())) (fun m i' s hi hs => by
   show A9 (m + 1) a1 a2 i ws (nI ws.length) i' b [] [] s = _
   simp only [A9, C9]
   obtain ⟨h0, h1⟩ := hw i' hi
   have c1 : decide (0 ≤ (List.getD ws i' (0, ByteArray.mk #[], ())).1) = true := decide_eq_true h0
   have c2 : decide ((List.getD ws i' (0, ByteArray.mk #[], ())).1 < nI s.length) = true := decide_eq_true (by rw [hs]; exact h1)
   have c3 : decide (Int.toNat (List.getD ws i' (0, ByteArray.mk #[], ())).1 < s.length) = true := decide_eq_true (by
    rw [hs]
    have : (ws.getD i' zW).1.toNat < sec.length := by
     have h0 : 0 ≤ (ws.getD i' zW).1 := h0
     have h1 : (ws.getD i' zW).1 < (sec.length : Int) := h1
     omega
    exact this)
   rw [cLt hi, Rr, wI (show i' < 4611686018427387904 by omega), Int.toNat_natCast, c1, c2, c3]
   rfl) (fun i s hi hs => by rw [List.length_set]; exact hs) (fun m s hs => by
   show A9 (m + 1) a1 a2 i ws (nI ws.length) (ws.length : Int) b [] [] s = _
   simp only [A9, C9]
   rw [Aa4]
   rfl) (C8 a1 a2 i ws (nI ws.length) 0 b [] [] sec) 0 sec (by omega) (by simp [C8, nI]) rfl
 exact hL
theorem Tq (a0 : Dk) (a1 : List Opn) (a2 : Int) r (h : Bd a0 a1 a2 = some r) : Hs a0 a1 a2 = some ((r.1, r.2.1, ()), (())) := by
 unfold Bd at h
 split at h
 rotate_left
 ·cases h
 rename_i hlen
 cases h
 unfold Hs Ka
 show (bif !Dv a0 then _ else _) = _
 cases hv : Dv a0 with
 | false => rfl
 | true =>
  have hok := Acd hv
  have e1 : Ee (a0.1, a0.2.1, ()) = some (a0.1, a0.2.1, ()) := if_pos ⟨Nat.le_trans hok.n200 (by decide), Nat.le_trans hok.p300 (by decide)⟩
  have hxl : (a1.take a2.toNat).length = min a2.toNat a1.length := List.length_take
  have hL := V2 (xs := a1.take a2.toNat) zOp (fun _ d => Er d) (fun _ o d => opS d o) (g := fun m i d => Au m a1 a2 i [] [] d.1 d.2.1) (ok := fun d : Dk => ([], [], d.1, d.2.1, ())) (fun m i d hi hI => by
   show Au (m + 1) a1 a2 i [] [] d.1 d.2.1 = _
   simp only [Au, Dn, Da]
   rw [hxl] at hi
   have hi1 : i < a1.length := by omega
   have hi2 : decide ((i : Int) < a2) = true := decide_eq_true (by omega)
   have hg : (a1.take a2.toNat).getD i zOp = List.getD a1 i (false, 0, ByteArray.mk #[], ()) := by
    rw [List.getD_eq_getElem?_getD, List.getElem?_take, if_pos (by omega), ← List.getD_eq_getElem?_getD]
    rfl
   rw [hg, hi2, cLt hi1, Rr, wI (show i < 4611686018427387904 by omega), Int.toNat_natCast]
   simp only [cond_true]
   generalize List.getD a1 i (false, 0, ByteArray.mk #[], ()) = o
   unfold opS
   cases ho : o.1 with
   | true =>
    simp only [cond_true]
    rw [Abe a1 a2 i d.2.1 hI.p300 (fun k hk => ⟨(hI.pen k hk).1, (hI.pen k hk).2.1⟩)]
    simp only [Option.bind_some]
    rw [wI (show i < 4611686018427387904 by omega)]
    rfl
   | false =>
    simp only [cond_false]
    have hn := hI.n8
    have hn2 := hI.n200
    have hp := hI.p300
    have e2 : Bp o.2.1 0 (IntKind.i64.wrap (nI d.1.length - 1)) = (decide (0 ≤ o.2.1) && decide (o.2.1 < (d.1.length : Int))) := by
     rw [Ac (by simp only [nI]; omega) (by simp only [nI]; omega)]
     show (decide (0 ≤ o.2.1) && decide (o.2.1 ≤ nI d.1.length - 1)) = _
     congr 1
     exact decide_eq_decide.2 (by simp only [nI]; omega)
    have e3 : (nI (ByteArray.size o.2.2.1) == 64) = decide (o.2.2.1.size = 64) := by
     by_cases q : o.2.2.1.size = 64
     ·rw [q]; rfl
     ·rw [decide_eq_false q]
      exact beq_eq_false_iff_ne.2 (by simp only [nI]; omega)
    have e4 : decide (nI d.2.1.length < 300) = decide (d.2.1.length < 300) := decide_eq_decide.2 (by simp only [nI]; omega)
    have e5 : decide ((d.2.1.length + 1) * 24 ≤ 140737488355328) = true := decide_eq_true (by omega)
    simp only [List.length_singleton, e2, e3, e4, e5]
    show _ = Au m a1 a2 _ [] [] (bif (decide (0 ≤ o.2.1) && (decide (o.2.1 < (d.1.length : Int)) && decide (o.2.2.1.size = 64))) && decide (d.2.1.length < 300) then (d.1, d.2.1 ++ [(o.2.1, o.2.2.1, ())], ()) else d).1 (bif (decide (0 ≤ o.2.1) && (decide (o.2.1 < (d.1.length : Int)) && decide (o.2.2.1.size = 64))) && decide (d.2.1.length < 300) then (d.1, d.2.1 ++ [(o.2.1, o.2.2.1, ())], ()) else d).2.1
    cases decide (0 ≤ o.2.1) <;> cases decide (o.2.1 < (d.1.length : Int)) <;> cases decide (o.2.2.1.size = 64) <;> cases decide (d.2.1.length < 300) <;> rfl) (fun i d hi hI => hI.op _) (fun m d hI => by
   show Au (m + 1) a1 a2 (((a1.take a2.toNat).length : Nat) : Int) [] [] d.1 d.2.1 = _
   simp only [Au, Dn, Da]
   rw [hxl]
   by_cases q : ((min a2.toNat a1.length : Nat) : Int) < a2
   ·rw [decide_eq_true q, decide_eq_false (show ¬ ((min a2.toNat a1.length : Nat) : Int) < nI a1.length by simp only [nI]; omega)]
    rfl
   ·rw [decide_eq_false q]
    rfl) (B4 a1 a2 0 [] [] a0.1 a0.2.1) 0 a0 (by omega) (by rw [hxl]; simp only [B4, nI]; omega) hok
  have hL' : Au (B4 a1 a2 0 [] [] a0.1 a0.2.1) a1 a2 0 [] [] a0.1 a0.2.1 = _ := hL
  simp only [Bool.not_true, cond_false]
  rw [e1]
  show (Au (B4 a1 a2 0 [] [] a0.1 a0.2.1) a1 a2 0 [] [] a0.1 a0.2.1).bind _ = _
  rw [hL', List.drop_zero]
  have hf : ∀ (l : List Opn) (i : Nat) (d : Dk), Ym (fun _ o d => opS d o) i l d = l.foldl opS d := fun l => by
   induction l with
   | nil => intro i d; rfl
   | cons o r ih => intro i d; exact ih _ _
  rw [hf]
  rfl
noncomputable def Jp {R : Type} (k : Kt R) := (Ph (pa_impl_Perform 6) (.exit 0) 2 k)
noncomputable def I0 {R : Type} (k : Kt R) := (Ph (pa_impl_Perform 11) (.exit 2) 4 k)
noncomputable def I1 {R : Type} : Lt R pa_impl_Perform := (Ho (pat := pa_impl_Perform) 6 (fun d k => (Au (B4 d.1 d.2.1 d.2.2.1 d.2.2.2.1 d.2.2.2.2.1 d.2.2.2.2.2.1 d.2.2.2.2.2.2.1) d.1 d.2.1 d.2.2.1 d.2.2.2.1 d.2.2.2.2.1 d.2.2.2.2.2.1 d.2.2.2.2.2.2.1).bind (Jp k)) (Ho (pat := pa_impl_Perform) 11 (fun d k => (Da d).bind (I0 k)) Lk))
theorem Ht : Az Try.prog ta_impl_Perform := B8 ⟨Ea, Jo, Sb, trivial⟩
theorem Pd {R : Type} : Bg Try.prog R 81 0 pa_impl_Perform I1 co_impl_Perform_11 :=
 Ed (cfg := ⟨ta_impl_Perform, 0, 81, pa_impl_Perform⟩) 11 [] (fun NX X d => C9  NX X d.1 d.2.1 d.2.2.1 d.2.2.2.1 d.2.2.2.2.1 d.2.2.2.2.2.1 d.2.2.2.2.2.2.1 d.2.2.2.2.2.2.2.1 d.2.2.2.2.2.2.2.2.1 d.2.2.2.2.2.2.2.2.2.1) (fun m d => A9 m d.1 d.2.1 d.2.2.1 d.2.2.2.1 d.2.2.2.2.1 d.2.2.2.2.2.1 d.2.2.2.2.2.2.1 d.2.2.2.2.2.2.2.1 d.2.2.2.2.2.2.2.2.1 d.2.2.2.2.2.2.2.2.2.1) (fun d => C8 d.1 d.2.1 d.2.2.1 d.2.2.2.1 d.2.2.2.2.1 d.2.2.2.2.2.1 d.2.2.2.2.2.2.1 d.2.2.2.2.2.2.2.1 d.2.2.2.2.2.2.2.2.1 d.2.2.2.2.2.2.2.2.2.1) I0 Ht trivial (fun f NX d => by unfold C9; simp only [Ay, Ba, Ar, Option.bind_assoc, Option.bind_none, Option.bind_some]) (fun _ _ _ => by kernel_rfl)
theorem Qz {R : Type} : Bg Try.prog R 81 0 pa_impl_Perform I1 co_impl_Perform_6 :=
 Ed (cfg := ⟨ta_impl_Perform, 0, 81, pa_impl_Perform⟩) 6 [co_impl_Perform_11] (fun NX X d => Dn Da NX X d.1 d.2.1 d.2.2.1 d.2.2.2.1 d.2.2.2.2.1 d.2.2.2.2.2.1 d.2.2.2.2.2.2.1) (fun m d => Au m d.1 d.2.1 d.2.2.1 d.2.2.2.1 d.2.2.2.2.1 d.2.2.2.2.2.1 d.2.2.2.2.2.2.1) (fun d => B4 d.1 d.2.1 d.2.2.1 d.2.2.2.1 d.2.2.2.2.1 d.2.2.2.2.2.1 d.2.2.2.2.2.2.1) Jp Ht ⟨Pd, trivial⟩ (fun f NX d => by unfold Dn; simp only [Ay, Ba, Ar, Option.bind_assoc, Option.bind_none, Option.bind_some]) (fun _ _ _ => by kernel_rfl)
theorem Tr : D4 Try.prog 45 sd_impl_Perform :=
 B9 (pat := pa_impl_Perform) [co_impl_Perform_6] I1 Ht ⟨Qz, trivial⟩ Try.func45 (de := fun x => Hs x.1 x.2.1 x.2.2.1) (fun x r h => D6 (Tq x.1 x.2.1 x.2.2.1) h) fun _ => by kernel_rfl
def Fv (s : ByteArray) : Option Int := if s.size ≤ 7 then some (m9 s) else none
def Fi (v0 : ByteArray) (v3 v4 : Int) : Nat := (nI v0.size - v4).toNat + 1
def x8 : Sig := ⟨[.rd .str], [none], [.rd tI], [none]⟩
noncomputable def sd_impl_num : SD := ⟨x8, fun x => (Fv x.1).bind fun r => some ((r, ()), (()))⟩
noncomputable def ta_impl_num : Tb := tb []
def pa_impl_num : Nat → Pat × (Nat → Pat) := I4 [(4, ⟨[], [(0, .lf (.d .str)), (3, .lf (.d tI)), (4, .lf (.d tI))], []⟩, [(2, ⟨[], [(3, .lf (.d tI))], []⟩)])]
noncomputable def co_impl_num_4 : Code := (Aw (Cf Try.f85)).getD 0 .skip
noncomputable def Fj {R : Type}  (NX : ((ByteArray) × (Int) × (Int) × Unit) → Option R) (X2 : ((Int) × Unit) → Option R) (v0 : ByteArray) (v3 : Int) (v4 : Int) : Option R :=
 bif decide (v4 < nI v0.size) then bif decide (0 ≤ v4) then bif decide (v4 < nI v0.size) then NX (v0, IntKind.i64.wrap (nI (BitVec.ofInt 64 (IntKind.i64.wrap (v3 * 2 ^ min (Int.toNat 8) 64)) ||| BitVec.ofInt 64 (IntKind.i64.wrap (Av v0 v4))).toNat), IntKind.i64.wrap (v4 + 1), ()) else none else none else X2 (v3, ())
noncomputable def Dp : Nat → (ByteArray) → (Int) → (Int) →  Option ((Int) × Unit)
 | 0, _, _, _ => none
 | m + 1, v0, v3, v4 => Fj  (fun d => Dp m d.1 d.2.1 d.2.2.1) (fun d => some (d)) v0 v3 v4
noncomputable def M6 (a0 : ByteArray) : Option ((((Int) × Unit) × (Unit))) :=
 ((fun d => Dp (Fi d.1 d.2.1 d.2.2.1) d.1 d.2.1 d.2.2.1) (a0, 0, 0, ())).bind fun val => some (val, ())
theorem x9 (s : ByteArray) (hs : s.size ≤ 7) : ∀ (k m i : Nat) (v : Int), i + k = s.size → k < m → 0 ≤ v → v < 256 ^ i → Dp m s v i = some (Aca s k i v, ())
 | 0, m + 1, i, v, hi, hm, h0, h1 => by
  simp only [Dp, Fj]
  rw [decide_eq_false (show ¬ ((i : Int) < nI s.size) by simp only [nI]; omega)]
  rfl
 | k + 1, m + 1, i, v, hi, hm, h0, h1 => by
  obtain ⟨hb, hs', e⟩ := Agv s i hi (by omega) h0 h1
  simp only [Dp, Fj]
  have c1 : (i : Int) < nI s.size := by simp only [nI]; omega
  rw [decide_eq_true c1, decide_eq_true (show (0 : Int) ≤ (i : Int) by omega), wI (show i < 4611686018427387904 by omega), e]
  exact x9 s hs k m (i + 1) _ (by omega) (by omega) hb hs'
theorem y5 (a0 : ByteArray) r (h : Fv a0 = some r) : M6 a0 = some ((r, ()), (())) := by
 unfold Fv at h
 split at h
 ·rename_i hc
  cases h
  unfold M6
  have hL := x9 a0 hc a0.size (Fi a0 0 0) 0 0 (by omega) (by simp only [Fi, nI]; omega) (by omega) (by decide)
  exact Sz hL rfl
 ·cases h
noncomputable def Ob {R : Type} (k : Kt R) := (Ph (pa_impl_num 4) (.exit 0) 2 k)
noncomputable def Wm {R : Type} : Lt R pa_impl_num := (Ho (pat := pa_impl_num) 4 (fun d k => (Dp (Fi d.1 d.2.1 d.2.2.1) d.1 d.2.1 d.2.2.1).bind (Ob k)) Lk)
theorem S5 : Az Try.prog ta_impl_num := B8 trivial
theorem Xh {R : Type} : Bg Try.prog R 19 0 pa_impl_num Wm co_impl_num_4 :=
 Ed (cfg := ⟨ta_impl_num, 0, 19, pa_impl_num⟩) 4 [] (fun NX X d => Fj  NX X d.1 d.2.1 d.2.2.1) (fun m d => Dp m d.1 d.2.1 d.2.2.1) (fun d => Fi d.1 d.2.1 d.2.2.1) Ob S5 trivial (fun f NX d => by unfold Fj; simp only [Ay, Ba, Ar, Option.bind_assoc, Option.bind_none, Option.bind_some]) (fun _ _ _ => by kernel_rfl)
theorem y6 : D4 Try.prog 85 sd_impl_num :=
 B9 (pat := pa_impl_num) [co_impl_num_4] Wm S5 ⟨Xh, trivial⟩ Try.func85 (de := fun x => M6 x.1) (fun x r h => D6 (y5 x.1) h) fun _ => by kernel_rfl
def Aa (s : ByteArray) (w : Int) : Pg × Bool := Je s w
def Sc : Sig := ⟨[.rd .str, .rd tI], [none, none], [.rd yPg, .rd .bool], [some 4, none]⟩
noncomputable def sd_impl_ReadPage : SD := ⟨Sc, fun x => some (((Aa x.1 x.2.1).1, (Aa x.1 x.2.1).2, ()), (()))⟩
noncomputable def Hc (a0 : ByteArray) (a1 : Int) : Option (((Pg × (Bool) × Unit) × (Unit))) :=
 bif nI a0.size != 64 then some (((0, 0, 0, ByteArray.mk #[], ()), false, ()), ()) else bif !Bp a1 1 8 then some (((0, 0, 0, ByteArray.mk #[], ()), false, ()), ()) else bif decide (0 ≤ a1) then bif decide (a1 ≤ nI a0.size) then bif decide (7 < nI (Ad a0 a1 (nI a0.size)).size) then bif decide (IntKind.i64.wrap (Av (Ad a0 a1 (nI a0.size)) 7) > IntKind.i64.wrap (IntKind.i64.wrap (64 - a1) - 8)) then some (((0, 0, 0, ByteArray.mk #[], ()), false, ()), ()) else bif decide (0 < nI (Ad a0 a1 (nI a0.size)).size) then bif decide (3 ≤ nI (Ad a0 a1 (nI a0.size)).size) then ((Fv (Ad (Ad a0 a1 (nI a0.size)) 1 3)).bind fun val => some ((val, ()), ())).bind fun val => bif decide (7 ≤ nI (Ad a0 a1 (nI a0.size)).size) then ((Fv (Ad (Ad a0 a1 (nI a0.size)) 3 7)).bind fun val => some ((val, ()), ())).bind fun val_1 => bif decide (8 ≤ IntKind.i64.wrap (8 + IntKind.i64.wrap (Av (Ad a0 a1 (nI a0.size)) 7))) then bif decide (IntKind.i64.wrap (8 + IntKind.i64.wrap (Av (Ad a0 a1 (nI a0.size)) 7)) ≤ nI (Ad a0 a1 (nI a0.size)).size) then bif !(Bv (IntKind.i64.wrap (Av (Ad a0 a1 (nI a0.size)) 0), val.1.1, val_1.1.1, Ad (Ad a0 a1 (nI a0.size)) 8 (IntKind.i64.wrap (8 + IntKind.i64.wrap (Av (Ad a0 a1 (nI a0.size)) 7))), ()) a1).toList == a0.toList then some (((0, 0, 0, ByteArray.mk #[], ()), false, ()), ()) else some (((IntKind.i64.wrap (Av (Ad a0 a1 (nI a0.size)) 0), val.1.1, val_1.1.1, Ad (Ad a0 a1 (nI a0.size)) 8 (IntKind.i64.wrap (8 + IntKind.i64.wrap (Av (Ad a0 a1 (nI a0.size)) 7))), ()), true, ()), ()) else none else none else none else none else none else none else none else none
theorem Sd (a0 : ByteArray) (a1 : Int) : Hc a0 a1 = some (((Aa a0 a1).1, (Aa a0 a1).2, ()), (())) := by
 unfold Hc Aa Je
 show (bif nI a0.size != 64 then _ else (bif !Cb a1 1 8 then _ else _)) = _
 cases hz : nI a0.size != 64 with
 | true => rfl
 | false =>
   cases hw : Cb a1 1 8 with
   | false => rfl
   | true =>
    have k1 := (Ei hw).1
    have k2 := (Ei hw).2
    have hs : a0.size = 64 := by
     by_cases q : nI a0.size = 64
     ·simp only [nI] at q; omega
     ·rw [(bne_iff_ne).2 q] at hz; cases hz
    have hb : (Ad a0 a1 (nI a0.size)).size = (64 - a1).toNat := by rw [D8 (by omega) (by simp only [nI]; omega) (by simp [nI])]; simp only [nI, hs]; omega
    simp only [Bool.not_true, cond_false, cond_true]
    rw [decide_eq_true (show (0 : Int) ≤ a1 by omega), decide_eq_true (show a1 ≤ nI a0.size by simp only [nI]; omega)]
    unfold Adc
    generalize Ad a0 a1 (nI a0.size) = b at *
    obtain ⟨b0, b1⟩ := Ru b 7
    obtain ⟨c0, c1⟩ := Ru b 0
    have hB : nI b.size = 64 - a1 := by simp only [nI]; omega
    rw [hB, decide_eq_true (show (7 : Int) < 64 - a1 by omega), decide_eq_true (show (0 : Int) < 64 - a1 by omega), decide_eq_true (show (3 : Int) ≤ 64 - a1 by omega), decide_eq_true (show (7 : Int) ≤ 64 - a1 by omega), Ac (n := Av b 7) (by omega) (by omega), Ac (n := Av b 0) (by omega) (by omega), Ac (n := 64 - a1) (by omega) (by omega), Ac (n := 64 - a1 - 8) (by omega) (by omega), Ac (n := 8 + Av b 7) (by omega) (by omega), show 64 - a1 - 8 = 56 - a1 by omega]
    by_cases q : Av b 7 > 56 - a1
    ·rw [decide_eq_true q]; rfl
    ·rw [decide_eq_false q]
     have n1 : Fv (Ad b 1 3) = some (m9 (Ad b 1 3)) := if_pos (by rw [D8 (by omega) (by omega) (by omega)]; decide)
     have n2 : Fv (Ad b 3 7) = some (m9 (Ad b 3 7)) := if_pos (by rw [D8 (by omega) (by omega) (by omega)]; decide)
     simp only [n1, n2, Option.bind_some, cond_true, cond_false]
     rw [decide_eq_true (show 8 ≤ 8 + Av b 7 by omega), decide_eq_true (show 8 + Av b 7 ≤ 64 - a1 by omega)]
     show (bif !(ByteArray.toList (A8 (Ae2 b) a1) == ByteArray.toList a0) then _ else _) = _
     cases (ByteArray.toList (A8 (Ae2 b) a1) == ByteArray.toList a0) <;> rfl
theorem Se : D4 Try.prog 29 sd_impl_ReadPage :=
 B9 (pat := Hj) [] Lk (B8 (l := [(27, sd_impl_FormPage), (83, sd_impl_in), (84, sd_impl_room), (85, sd_impl_num)]) ⟨G7, Ea, H4, y6, trivial⟩) trivial Try.func29 (de := fun x => Hc x.1 x.2.1) (fun x r h => (Sd x.1 x.2.1).trans h) fun _ => by kernel_rfl
def I2 (d : Dk) (a : Int) : Option ByteArray := if d.2.1.length ≤ 1099511627776 ∧ 0 ≤ a ∧ a < (d.1.length : Int) then some (Z4 d a) else none
def Dq (v1 : Int) (v5 : Int) (b0_0 : List ByteArray) (b0_1 : List Wr) : Nat := (v5 + 1).toNat + 1
def y7 : Sig := ⟨[.rd yDk, .rd tI], [some 2, none], [.rd .str], [none]⟩
noncomputable def sd_impl_see : SD := ⟨y7, fun x => (I2 x.1 x.2.1).bind fun r => some ((r, ()), (()))⟩
noncomputable def ta_impl_see : Tb := tb []
def pa_impl_see : Nat → Pat × (Nat → Pat) := I4 [(3, ⟨[.boxSl 2 0 .str, .boxSl 2 1 Hm], [(1, .lf (.d tI)), (2, .lf (.ptr 0 0)), (5, .lf (.d tI))], [.box 60 [.d (.sl .str), .d (.sl Hm)]]⟩, [(2, ⟨[.boxSl 2 0 .str, .boxSl 2 1 Hm], [(1, .lf (.d tI)), (2, .lf (.ptr 0 0))], [.box 60 [.d (.sl .str), .d (.sl Hm)]]⟩), (1, ⟨[], [(4, .lf (.d .str))], []⟩)])]
noncomputable def co_impl_see_3 : Code := (Aw (Cf Try.f105)).getD 0 .skip
noncomputable def Fk {R : Type}  (NX : ((Int) × (Int) × (List ByteArray) × (List Wr) × Unit) → Option R) (X2 : ((Int) × (List ByteArray) × (List Wr) × Unit) → Option R) (X1 : ((ByteArray) × Unit) → Option R) (v1 : Int) (v5 : Int) (b0_0 : List ByteArray) (b0_1 : List Wr) : Option R :=
 bif decide (v5 ≥ 0) then bif decide (0 ≤ v5) then bif decide (v5 < nI b0_1.length) then bif (b0_1.getD v5.toNat (0, ByteArray.mk #[], ())).1 == v1 then bif decide (0 ≤ v5) then bif decide (v5 < nI b0_1.length) then X1 (b0_1.getD v5.toNat (0, ByteArray.mk #[], ())).2 else none else none else NX (v1, IntKind.i64.wrap (v5 - 1), b0_0, b0_1, ()) else none else none else X2 (v1, b0_0, b0_1, ())
noncomputable def Bu : Nat → (Int) → (Int) → (List ByteArray) → (List Wr) →  Option (((Int) × (List ByteArray) × (List Wr) × Unit) ⊕ ((ByteArray) × Unit))
 | 0, _, _, _, _ => none
 | m + 1, v1, v5, b0_0, b0_1 => Fk  (fun d => Bu m d.1 d.2.1 d.2.2.1 d.2.2.2.1) (fun d => some (.inl (d))) (fun d => some (.inr (d))) v1 v5 b0_0 b0_1
noncomputable def M7 (a0 : Dk) (a1 : Int) : Option ((((ByteArray) × Unit) × (Unit))) :=
 ((fun d => Bu (Dq d.1 d.2.1 d.2.2.1 d.2.2.2.1) d.1 d.2.1 d.2.2.1 d.2.2.2.1) (a1, IntKind.i64.wrap (nI (List.length a0.2.1) - 1), a0)).bind fun val => Ij (fun d => bif decide (0 ≤ d.1) then bif decide (d.1 < nI (List.length d.2.1)) then some ((List.getD d.2.1 (Int.toNat d.1) (ByteArray.mk #[]), ()), ()) else none else none) (fun d => some (d, ())) val
theorem y8 (a0 : Dk) (a1 : Int) r (h : I2 a0 a1 = some r) : M7 a0 a1 = some ((r, ()), (())) := by
 unfold I2 at h
 split at h
 ·rename_i hc
  obtain ⟨hp, h0, h1⟩ := hc
  cases h
  have hw : IntKind.i64.wrap (nI a0.2.1.length - 1) = (a0.2.1.length : Int) - 1 := Ac (by simp only [nI]; omega) (by simp only [nI]; omega)
  have hL := Vw (xs := a0.2.1) zW (fun w => w.1 == a1) (fun w => .inr (w.2.1, ())) (g := fun m i => Bu m a1 i a0.1 a0.2.1) (ok := .inl (a1, a0.1, a0.2.1, ())) (fun m i hi => by
   show Bu (m + 1) a1 i a0.1 a0.2.1 = _
   simp only [Bu, Fk]
   have hi0 : (i : Int) ≥ 0 := by omega
   have hw : IntKind.i64.wrap ((i : Int) - 1) = (i : Int) - 1 := Ac (by omega) (by omega)
   rw [decide_eq_true hi0, cLt hi, Int.toNat_natCast, hw]
   rfl) (fun m => by
   show Bu (m + 1) a1 (-1) a0.1 a0.2.1 = _
   simp only [Bu, Fk]
   rfl) (Dq a1 ((a0.2.1.length : Int) - 1) a0.1 a0.2.1) a0.2.1.length (by omega) (by simp [Dq])
  have hL' : Bu (Dq a1 ((a0.2.1.length : Int) - 1) a0.1 a0.2.1) a1 ((a0.2.1.length : Int) - 1) a0.1 a0.2.1 = _ := hL
  unfold M7
  rw [hw]
  show (Bu (Dq a1 ((a0.2.1.length : Int) - 1) a0.1 a0.2.1) a1 ((a0.2.1.length : Int) - 1) a0.1 a0.2.1).bind _ = _
  rw [hL', List.take_length]
  show Ij _ _ _ = _
  have hc1 : decide (0 ≤ a1) = true := decide_eq_true h0
  have hc2 : decide (a1 < nI a0.1.length) = true := decide_eq_true h1
  unfold Z4
  rw [Oy (Ij _ _), Oy (fun r : ByteArray => some ((r, ()), ()))]
  simp only [Ij, hc1, hc2, cond_true]
  rfl
 ·cases h
noncomputable def Oc {R : Type} (k : Kt R) := (Ij (Ph (pa_impl_see 3) (.exit 0) 2 k) (Ph (pa_impl_see 3) .ret 1 k))
noncomputable def Wn {R : Type} : Lt R pa_impl_see := (Ho (pat := pa_impl_see) 3 (fun d k => (Bu (Dq d.1 d.2.1 d.2.2.1 d.2.2.2.1) d.1 d.2.1 d.2.2.1 d.2.2.2.1).bind (Oc k)) Lk)
theorem S6 : Az Try.prog ta_impl_see := B8 trivial
theorem Xi {R : Type} : Bg Try.prog R 33 0 pa_impl_see Wn co_impl_see_3 :=
 Ed (cfg := ⟨ta_impl_see, 0, 33, pa_impl_see⟩) 3 [] (fun NX X d => Fk  NX (fun e => X (.inl (e))) (fun e => X (.inr (e))) d.1 d.2.1 d.2.2.1 d.2.2.2.1) (fun m d => Bu m d.1 d.2.1 d.2.2.1 d.2.2.2.1) (fun d => Dq d.1 d.2.1 d.2.2.1 d.2.2.2.1) Oc S6 trivial (fun f NX d => by unfold Fk; simp only [Ay, Ba, Ar, Option.bind_assoc, Option.bind_none, Option.bind_some]) (fun _ _ _ => by kernel_rfl)
theorem y9 : D4 Try.prog 105 sd_impl_see :=
 B9 (pat := pa_impl_see) [co_impl_see_3] Wn S6 ⟨Xi, trivial⟩ Try.func105 (de := fun x => M7 x.1 x.2.1) (fun x r h => D6 (y8 x.1 x.2.1) h) fun _ => by kernel_rfl
def Ao (d : Dk) (from_ size first life w : Int) : Scd := Qj d from_ size first life w
def b6 : Sig := ⟨[.rd yDk, .rd tI, .rd tI, .rd tI, .rd tI, .rd tI], [some 2, none, none, none, none, none], [.own 9 .str, .rd tI, .rd tI], [some 3]⟩
noncomputable def sd_impl_Scan : SD := ⟨b6, fun x => some (((Ao x.1 x.2.1 x.2.2.1 x.2.2.2.1 x.2.2.2.2.1 x.2.2.2.2.2.1).1, (Ao x.1 x.2.1 x.2.2.1 x.2.2.2.1 x.2.2.2.2.1 x.2.2.2.2.2.1).2.1, (Ao x.1 x.2.1 x.2.2.1 x.2.2.2.1 x.2.2.2.2.1 x.2.2.2.2.2.1).2.2.1, ()), (()))⟩
noncomputable def ta_impl_Scan : Tb := tb [(29, sd_impl_ReadPage), (83, sd_impl_in), (103, sd_impl_ValidDisk), (105, sd_impl_see)]
def pa_impl_Scan : Nat → Pat × (Nat → Pat) := I4 [(9, ⟨[.boxSl 6 0 .str, .boxSl 6 1 Hm, .boxRow 12 0 9 .str, .boxRow 13 0 9 .str], [(1, .lf (.d tI)), (2, .lf (.d tI)), (3, .lf (.d tI)), (5, .lf (.d tI)), (6, .lf (.ptr 0 0)), (12, .lf (.ptr 1 0)), (13, .lf (.ptr 2 0)), (14, .lf (.d .bool)), (15, .lf (.d .str)), (16, .lf (.d tI)), (17, .lf (.d tI))], [.box 60 [.d (.sl .str), .d (.sl Hm)], .box 83 [.row 3, .d tI, .d tI], .box 83 [.row 4, .d tI, .d tI], .row 9 .str, .row 9 .str]⟩, [(2, ⟨[.boxRow 12 0 9 .str, .boxRow 13 0 9 .str], [(12, .lf (.ptr 0 0)), (13, .lf (.ptr 1 0))], [.box 83 [.row 2, .d tI, .d tI], .box 83 [.row 3, .d tI, .d tI], .row 9 .str, .row 9 .str]⟩)])]
noncomputable def co_impl_Scan_9 : Code := (Aw (Cf Try.f46)).getD 0 .skip
def Cq (v1 : Int) (v2 : Int) (v3 : Int) (v5 : Int) (v14 : Bool) (v15 : ByteArray) (v16 : Int) (v17 : Int) (b0_0 : List ByteArray) (b0_1 : List Wr) (b1_1 : Int) (b1_2 : Int) (b2_1 : Int) (b2_2 : Int) (r3 : List ByteArray) (r4 : List ByteArray) : Nat := (v2 - v17).toNat + 1
noncomputable def Ev {R : Type}  (NX : ((Int) × (Int) × (Int) × (Int) × (Bool) × (ByteArray) × (Int) × (Int) × (List ByteArray) × (List Wr) × (Int) × (Int) × (Int) × (Int) × (List ByteArray) × (List ByteArray) × Unit) → Option R) (X2 : ((Int) × (Int) × (Int) × (Int) × (List ByteArray) × (List ByteArray) × Unit) → Option R) (v1 : Int) (v2 : Int) (v3 : Int) (v5 : Int) (v14 : Bool) (v15 : ByteArray) (v16 : Int) (v17 : Int) (b0_0 : List ByteArray) (b0_1 : List Wr) (b1_1 : Int) (b1_2 : Int) (b2_1 : Int) (b2_2 : Int) (r3 : List ByteArray) (r4 : List ByteArray) : Option R :=
 bif decide (v17 < v2) then ((I2 (b0_0, b0_1, ()) (IntKind.i64.wrap (v1 + v17))).bind fun val => some ((val, ()), ())).bind fun val => bif !(Aa val.1.1 v5).2 then X2 (b1_1, b1_2, b2_1, b2_2, r3, r4, ()) else bif IntKind.i64.wrap ((Aa val.1.1 v5).1.2.2.1 - v17) != v3 then X2 (b1_1, b1_2, b2_1, b2_2, r3, r4, ()) else bif decide ((Aa val.1.1 v5).1.2.1 < v16) then X2 (b1_1, b1_2, b2_1, b2_2, r3, r4, ()) else bif v14 then bif (Aa val.1.1 v5).1.2.1 != v16 then X2 (b1_1, b1_2, b2_1, b2_2, r3, r4, ()) else bif (Aa val.1.1 v5).1.1 == 3 then X2 (b1_1, b1_2, b2_1, b2_2, r3, r4, ()) else bif (Aa val.1.1 v5).1.1 == 4 then X2 (b1_1, b1_2, b2_1, b2_2, r3, r4, ()) else bif (Aa val.1.1 v5).1.1 == 1 then bif decide (v15.size + ByteArray.size (Aa val.1.1 v5).1.2.2.2.1 ≤ 9223372036854775807) then NX (v1, v2, v3, v5, true, v15 ++ (Aa val.1.1 v5).1.2.2.2.1, (Aa val.1.1 v5).1.2.1, IntKind.i64.wrap (v17 + 1), b0_0, b0_1, b1_1, b1_2, b2_1, b2_2, r3, r4, ()) else none else bif (Aa val.1.1 v5).1.1 == 2 then bif decide (v15.size + ByteArray.size (Aa val.1.1 v5).1.2.2.2.1 ≤ 9223372036854775807) then bif decide ((r4.length + [v15 ++ (Aa val.1.1 v5).1.2.2.2.1].length) * 16 ≤ 140737488355328) then NX (v1, v2, v3, v5, false, ByteArray.mk #[], (Aa val.1.1 v5).1.2.1, IntKind.i64.wrap (v17 + 1), b0_0, b0_1, b1_1, b1_2, IntKind.i64.wrap (v17 + 1), (Aa val.1.1 v5).1.2.1, r3, r4 ++ [v15 ++ (Aa val.1.1 v5).1.2.2.2.1], ()) else none else none else bif (Aa val.1.1 v5).1.1 == 3 then NX (v1, v2, v3, v5, v14, v15, (Aa val.1.1 v5).1.2.1, IntKind.i64.wrap (v17 + 1), b0_0, b0_1, b1_1, b1_2, IntKind.i64.wrap (v17 + 1), (Aa val.1.1 v5).1.2.1, r3, r4, ()) else NX (v1, v2, v3, v5, v14, v15, (Aa val.1.1 v5).1.2.1, IntKind.i64.wrap (v17 + 1), b0_0, b0_1, b1_1, b1_2, b2_1, b2_2, r3, r4, ()) else bif (Aa val.1.1 v5).1.1 == 4 then X2 (b1_1, b1_2, b2_1, b2_2, r3, r4, ()) else bif (Aa val.1.1 v5).1.1 == 1 then bif decide (v15.size + ByteArray.size (Aa val.1.1 v5).1.2.2.2.1 ≤ 9223372036854775807) then NX (v1, v2, v3, v5, true, v15 ++ (Aa val.1.1 v5).1.2.2.2.1, (Aa val.1.1 v5).1.2.1, IntKind.i64.wrap (v17 + 1), b0_0, b0_1, b1_1, b1_2, b2_1, b2_2, r3, r4, ()) else none else bif (Aa val.1.1 v5).1.1 == 2 then bif decide (v15.size + ByteArray.size (Aa val.1.1 v5).1.2.2.2.1 ≤ 9223372036854775807) then bif decide ((r4.length + [v15 ++ (Aa val.1.1 v5).1.2.2.2.1].length) * 16 ≤ 140737488355328) then NX (v1, v2, v3, v5, false, ByteArray.mk #[], (Aa val.1.1 v5).1.2.1, IntKind.i64.wrap (v17 + 1), b0_0, b0_1, b1_1, b1_2, IntKind.i64.wrap (v17 + 1), (Aa val.1.1 v5).1.2.1, r3, r4 ++ [v15 ++ (Aa val.1.1 v5).1.2.2.2.1], ()) else none else none else bif (Aa val.1.1 v5).1.1 == 3 then NX (v1, v2, v3, v5, v14, v15, (Aa val.1.1 v5).1.2.1, IntKind.i64.wrap (v17 + 1), b0_0, b0_1, b1_1, b1_2, IntKind.i64.wrap (v17 + 1), (Aa val.1.1 v5).1.2.1, r3, r4, ()) else NX (v1, v2, v3, v5, v14, v15, (Aa val.1.1 v5).1.2.1, IntKind.i64.wrap (v17 + 1), b0_0, b0_1, b1_1, b1_2, b2_1, b2_2, r3, r4, ()) else X2 (b1_1, b1_2, b2_1, b2_2, r3, r4, ())
noncomputable def B5 : Nat → (Int) → (Int) → (Int) → (Int) → (Bool) → (ByteArray) → (Int) → (Int) → (List ByteArray) → (List Wr) → (Int) → (Int) → (Int) → (Int) → (List ByteArray) → (List ByteArray) →  Option ((Int) × (Int) × (Int) × (Int) × (List ByteArray) × (List ByteArray) × Unit)
 | 0, _, _, _, _, _, _, _, _, _, _, _, _, _, _, _, _ => none
 | m + 1, v1, v2, v3, v5, v14, v15, v16, v17, b0_0, b0_1, b1_1, b1_2, b2_1, b2_2, r3, r4 => Ev  (fun d => B5 m d.1 d.2.1 d.2.2.1 d.2.2.2.1 d.2.2.2.2.1 d.2.2.2.2.2.1 d.2.2.2.2.2.2.1 d.2.2.2.2.2.2.2.1 d.2.2.2.2.2.2.2.2.1 d.2.2.2.2.2.2.2.2.2.1 d.2.2.2.2.2.2.2.2.2.2.1 d.2.2.2.2.2.2.2.2.2.2.2.1 d.2.2.2.2.2.2.2.2.2.2.2.2.1 d.2.2.2.2.2.2.2.2.2.2.2.2.2.1 d.2.2.2.2.2.2.2.2.2.2.2.2.2.2.1 d.2.2.2.2.2.2.2.2.2.2.2.2.2.2.2.1) (fun d => some (d)) v1 v2 v3 v5 v14 v15 v16 v17 b0_0 b0_1 b1_1 b1_2 b2_1 b2_2 r3 r4
noncomputable def Lg (a0 : Dk) (a1 : Int) (a2 : Int) (a3 : Int) (a4 : Int) (a5 : Int) : Option ((((List ByteArray) × (Int) × (Int) × Unit) × (Unit))) :=
 bif !D1 a0 then some (([], 0, 0, ()), ()) else bif !Bp a5 1 8 then some (([], 0, 0, ()), ()) else bif decide (a1 < 0) then some (([], 0, 0, ()), ()) else bif decide (a2 < 0) then some (([], 0, 0, ()), ()) else bif decide (a1 > nI (List.length a0.1)) then some (([], 0, 0, ()), ()) else bif decide (a2 > IntKind.i64.wrap (nI (List.length a0.1) - a1)) then some (([], 0, 0, ()), ()) else ((fun d => B5 (Cq d.1 d.2.1 d.2.2.1 d.2.2.2.1 d.2.2.2.2.1 d.2.2.2.2.2.1 d.2.2.2.2.2.2.1 d.2.2.2.2.2.2.2.1 d.2.2.2.2.2.2.2.2.1 d.2.2.2.2.2.2.2.2.2.1 d.2.2.2.2.2.2.2.2.2.2.1 d.2.2.2.2.2.2.2.2.2.2.2.1 d.2.2.2.2.2.2.2.2.2.2.2.2.1 d.2.2.2.2.2.2.2.2.2.2.2.2.2.1 d.2.2.2.2.2.2.2.2.2.2.2.2.2.2.1 d.2.2.2.2.2.2.2.2.2.2.2.2.2.2.2.1) d.1 d.2.1 d.2.2.1 d.2.2.2.1 d.2.2.2.2.1 d.2.2.2.2.2.1 d.2.2.2.2.2.2.1 d.2.2.2.2.2.2.2.1 d.2.2.2.2.2.2.2.2.1 d.2.2.2.2.2.2.2.2.2.1 d.2.2.2.2.2.2.2.2.2.2.1 d.2.2.2.2.2.2.2.2.2.2.2.1 d.2.2.2.2.2.2.2.2.2.2.2.2.1 d.2.2.2.2.2.2.2.2.2.2.2.2.2.1 d.2.2.2.2.2.2.2.2.2.2.2.2.2.2.1 d.2.2.2.2.2.2.2.2.2.2.2.2.2.2.2.1) (a1, a2, a3, a5, false, ByteArray.mk #[], a4, 0, a0.1, a0.2.1, 0, 0, 0, a4, [], [], ())).bind fun val => some ((val.2.2.2.2.2.1, val.2.2.1, val.2.2.2.1, ()), ())
def z6 (v : Int × Int × Int × Int × List ByteArray × List ByteArray × Unit) : Scd := (v.2.2.2.2.2.1, v.2.2.1, v.2.2.2.1, ())
theorem Wo {d : Dk} (hd : Er d) (f n : Nat) (hfn : f + n ≤ d.1.length) (first w b1 b2 : Int) (r3 : List ByteArray) : ∀ (k m i : Nat) (st : ScT), i + k = n → k < m → V3 i st → (st.1 ≠ 1 → st.2.2.1 = z0) →
  ∃ y, B5 m f n first w (st.1 == 1) st.2.2.1 st.2.1 i d.1 d.2.1 b1 b2 st.2.2.2.2.1 st.2.2.2.2.2 r3 st.2.2.2.1 = some y ∧ z6 y = Bl w first (seen d f i k) i st
 | 0, m + 1, i, st, hi, _, _, _ => by
  simp only [B5, Ev]
  rw [decide_eq_false (show ¬ (i : Int) < (n : Int) by omega)]
  exact ⟨_, rfl, rfl⟩
 | k + 1, m + 1, i, st, hi, hm, hI, hz => by
  have h200 := hd.n200
  have e1 : IntKind.i64.wrap ((f : Int) + (i : Int)) = (f : Int) + (i : Int) := Ac (by omega) (by omega)
  have e2 : I2 (d.1, d.2.1, ()) ((f : Int) + (i : Int)) = some (Z4 d ((f : Int) + (i : Int))) := if_pos ⟨Nat.le_trans hd.p300 (by decide), by omega, by show _ < (d.1.length : Int); omega⟩
  have e4 : IntKind.i64.wrap ((i : Int) + 1) = ((i + 1 : Nat) : Int) := wI (by omega)
  have es : seen d f i (k + 1) = Z4 d ((f : Int) + (i : Int)) :: seen d f (i + 1) k := rfl
  simp only [B5, Ev]
  rw [es, decide_eq_true (show (i : Int) < (n : Int) by omega)]
  simp only [e1, e2, e4, cond_true, Option.bind_some, Aa]
  unfold Bl Lc
  generalize hx : Z4 d ((f : Int) + (i : Int)) = x
  obtain ⟨p, ok, hR⟩ : ∃ p ok, Je x w = (p, ok) := ⟨_, _, rfl⟩
  simp only [hR]
  cases ok with
  | false => exact ⟨_, rfl, rfl⟩
  | true =>
   obtain ⟨q1, q2, q3⟩ := Agz hR
   have e5 : IntKind.i64.wrap (p.2.2.1 - (i : Int)) = p.2.2.1 - (i : Int) := Ac (by omega) (by omega)
   simp only [e5, Bool.not_true, cond_false, Bool.true_and, bne]
   cases hn : (p.2.2.1 - (i : Int) == first) with
   | false => exact ⟨_, rfl, rfl⟩
   | true =>
    simp only [Bool.not_true, cond_false, Bool.true_and]
    have hN := hI.next (p := p) (by omega) q3
    have e6 : decide (ByteArray.size st.2.2.1 + ByteArray.size p.2.2.2.1 ≤ 9223372036854775807) = true := decide_eq_true (by have := hI.2.1; omega)
    have e7 : decide ((List.length st.2.2.2.1 + 1) * 16 ≤ 140737488355328) = true := decide_eq_true (by have := hI.2.2; omega)
    simp only [e6, cond_true, List.length_singleton, e7]
    have ei : (i : Int) + 1 = ((i + 1 : Nat) : Int) := by omega
    have ih := fun hz => Wo hd f n hfn first w b1 b2 r3 k m (i + 1) (Gc i p st) (by omega) (by omega) hN hz
    unfold Gc at ih ⊢
    unfold S1
    rw [ei]
    rw [ei] at ih
    have hk : p.1 = 1 ∨ p.1 = 2 ∨ p.1 = 3 ∨ p.1 = 4 := by omega
    cases hlt : decide (p.2.1 < st.2.1) with
    | true => exact ⟨_, rfl, rfl⟩
    | false =>
     simp only [cond_false]
     have eqc : (p.2.1 == st.2.1) = (st.2.1 == p.2.1) := by
      by_cases q : p.2.1 = st.2.1
      ·rw [q]
      ·rw [beq_eq_false_iff_ne.2 q, beq_eq_false_iff_ne.2 (Ne.symm q)]
     rw [eqc]
     rcases hk with hp | hp | hp | hp
     ·rw [hp] at ih ⊢
      have ih := ih (fun q => absurd rfl q)
      cases ho : (st.1 == 1) with
      | false =>
       have hb : (st.1 != 1) = true := by simp only [bne, ho, Bool.not_false]
       rw [hb]
       exact ih
      | true =>
       have hb : (st.1 != 1) = false := by simp only [bne, ho, Bool.not_true]
       rw [hb]
       cases (st.2.1 == p.2.1) with
       | false => exact ⟨_, rfl, rfl⟩
       | true => exact ih
     ·rw [hp] at ih ⊢
      have ih := ih (fun _ => rfl)
      cases ho : (st.1 == 1) with
      | false =>
       have hb : (st.1 != 1) = true := by simp only [bne, ho, Bool.not_false]
       rw [hb]
       exact ih
      | true =>
       have hb : (st.1 != 1) = false := by simp only [bne, ho, Bool.not_true]
       rw [hb]
       cases (st.2.1 == p.2.1) with
       | false => exact ⟨_, rfl, rfl⟩
       | true => exact ih
     ·rw [hp] at ih ⊢
      have ih := ih (fun _ => rfl)
      cases ho : (st.1 == 1) with
      | false =>
       have hb : (st.1 != 1) = true := by simp only [bne, ho, Bool.not_false]
       have hs := hz (fun q => by rw [q] at ho; cases ho)
       rw [hb, hs]
       exact ih
      | true =>
       have hb : (st.1 != 1) = false := by simp only [bne, ho, Bool.not_true]
       rw [hb]
       cases (st.2.1 == p.2.1) <;> exact ⟨_, rfl, rfl⟩
     ·rw [hp]
      cases ho : (st.1 == 1) with
      | false => exact ⟨_, rfl, rfl⟩
      | true =>
       cases (st.2.1 == p.2.1) <;> exact ⟨_, rfl, rfl⟩
theorem b8 (a0 : Dk) (a1 : Int) (a2 : Int) (a3 : Int) (a4 : Int) (a5 : Int) : Lg a0 a1 a2 a3 a4 a5 = some (((Ao a0 a1 a2 a3 a4 a5).1, (Ao a0 a1 a2 a3 a4 a5).2.1, (Ao a0 a1 a2 a3 a4 a5).2.2.1, ()), (())) := by
 unfold Lg Ao Qj
 show (bif !Dv a0 then _ else bif !Cb a5 1 8 then _ else _) = _
 cases hv : Dv a0 with
 | false => rfl
 | true =>
  have hd := Acd hv
  cases hw : Cb a5 1 8 with
  | false => rfl
  | true =>
   simp only [Bool.not_true, cond_false]
   have h200 := hd.n200
   by_cases h1 : a1 < 0
   ·rw [decide_eq_true h1, decide_eq_false (show ¬ 0 ≤ a1 by omega)]; rfl
   ·rw [decide_eq_false h1, decide_eq_true (show 0 ≤ a1 by omega)]
    by_cases h2 : a2 < 0
    ·rw [decide_eq_true h2, decide_eq_false (show ¬ 0 ≤ a2 by omega)]; rfl
    ·rw [decide_eq_false h2, decide_eq_true (show 0 ≤ a2 by omega)]
     by_cases h3 : a1 > nI a0.1.length
     ·rw [decide_eq_true h3, decide_eq_false (show ¬ a1 ≤ (a0.1.length : Int) by simp only [nI] at h3; omega)]; rfl
     ·have h3' : a1 ≤ (a0.1.length : Int) := by simp only [nI] at h3; omega
      rw [decide_eq_false h3, decide_eq_true h3']
      rw [Ac (n := nI a0.1.length - a1) (by simp only [nI]; omega) (by simp only [nI]; omega)]
      by_cases h4 : a2 > nI a0.1.length - a1
      ·rw [decide_eq_true h4, decide_eq_false (show ¬ a2 ≤ (a0.1.length : Int) - a1 by simp only [nI] at h4; omega)]; rfl
      ·have h4' : a2 ≤ (a0.1.length : Int) - a1 := by simp only [nI] at h4; omega
       rw [decide_eq_false h4, decide_eq_true h4']
       simp only [cond_false, cond_true, Bool.true_and, Bool.and_self]
       obtain ⟨f, rfl⟩ : ∃ f : Nat, a1 = (f : Int) := ⟨a1.toNat, by omega⟩
       obtain ⟨n, rfl⟩ : ∃ n : Nat, a2 = (n : Int) := ⟨a2.toNat, by omega⟩
       have hfu : n < Cq f n a3 a5 false (ByteArray.mk #[]) a4 0 a0.1 a0.2.1 0 0 0 a4 [] [] := by simp only [Cq]; omega
       obtain ⟨y, hy1, hy2⟩ := Wo hd f n (by omega) a3 a5 0 0 [] n (Cq f n a3 a5 false (ByteArray.mk #[]) a4 0 a0.1 a0.2.1 0 0 0 a4 [] []) 0 (0, a4, z0, [], 0, a4) (Nat.zero_add _) hfu (V3.zero _ _ _ _) (fun _ => rfl)
       show (B5 (Cq f n a3 a5 false (ByteArray.mk #[]) a4 0 a0.1 a0.2.1 0 0 0 a4 [] []) f n a3 a5 false (ByteArray.mk #[]) a4 0 a0.1 a0.2.1 0 0 0 a4 [] []).bind _ = _
       have hy1' : B5 (Cq f n a3 a5 false (ByteArray.mk #[]) a4 0 a0.1 a0.2.1 0 0 0 a4 [] []) f n a3 a5 false (ByteArray.mk #[]) a4 0 a0.1 a0.2.1 0 0 0 a4 [] [] = some y := hy1
       rw [hy1', Int.toNat_natCast]
       simp only [Option.bind_some]
       have hy3 : z6 y = Bl a5 a3 (seen a0 (f : Int) 0 n) 0 (0, a4, z0, [], 0, a4) := hy2
       rw [← hy3]
       rfl
noncomputable def M8 {R : Type} (k : Kt R) := (Ph (pa_impl_Scan 9) (.exit 0) 2 k)
noncomputable def S7 {R : Type} : Lt R pa_impl_Scan := (Ho (pat := pa_impl_Scan) 9 (fun d k => (B5 (Cq d.1 d.2.1 d.2.2.1 d.2.2.2.1 d.2.2.2.2.1 d.2.2.2.2.2.1 d.2.2.2.2.2.2.1 d.2.2.2.2.2.2.2.1 d.2.2.2.2.2.2.2.2.1 d.2.2.2.2.2.2.2.2.2.1 d.2.2.2.2.2.2.2.2.2.2.1 d.2.2.2.2.2.2.2.2.2.2.2.1 d.2.2.2.2.2.2.2.2.2.2.2.2.1 d.2.2.2.2.2.2.2.2.2.2.2.2.2.1 d.2.2.2.2.2.2.2.2.2.2.2.2.2.2.1 d.2.2.2.2.2.2.2.2.2.2.2.2.2.2.2.1) d.1 d.2.1 d.2.2.1 d.2.2.2.1 d.2.2.2.2.1 d.2.2.2.2.2.1 d.2.2.2.2.2.2.1 d.2.2.2.2.2.2.2.1 d.2.2.2.2.2.2.2.2.1 d.2.2.2.2.2.2.2.2.2.1 d.2.2.2.2.2.2.2.2.2.2.1 d.2.2.2.2.2.2.2.2.2.2.2.1 d.2.2.2.2.2.2.2.2.2.2.2.2.1 d.2.2.2.2.2.2.2.2.2.2.2.2.2.1 d.2.2.2.2.2.2.2.2.2.2.2.2.2.2.1 d.2.2.2.2.2.2.2.2.2.2.2.2.2.2.2.1).bind (M8 k)) Lk)
theorem Q0 : Az Try.prog ta_impl_Scan := B8 ⟨Se, Ea, Jo, y9, trivial⟩
theorem Wp {R : Type} : Bg Try.prog R 140 0 pa_impl_Scan S7 co_impl_Scan_9 :=
 Ed (cfg := ⟨ta_impl_Scan, 0, 140, pa_impl_Scan⟩) 9 [] (fun NX X (d : (Int) × (Int) × (Int) × (Int) × (Bool) × (ByteArray) × (Int) × (Int) × (List ByteArray) × (List Wr) × (Int) × (Int) × (Int) × (Int) × (List ByteArray) × (List ByteArray) × Unit) => Ev  NX X d.1 d.2.1 d.2.2.1 d.2.2.2.1 d.2.2.2.2.1 d.2.2.2.2.2.1 d.2.2.2.2.2.2.1 d.2.2.2.2.2.2.2.1 d.2.2.2.2.2.2.2.2.1 d.2.2.2.2.2.2.2.2.2.1 d.2.2.2.2.2.2.2.2.2.2.1 d.2.2.2.2.2.2.2.2.2.2.2.1 d.2.2.2.2.2.2.2.2.2.2.2.2.1 d.2.2.2.2.2.2.2.2.2.2.2.2.2.1 d.2.2.2.2.2.2.2.2.2.2.2.2.2.2.1 d.2.2.2.2.2.2.2.2.2.2.2.2.2.2.2.1) (fun m d => B5 m d.1 d.2.1 d.2.2.1 d.2.2.2.1 d.2.2.2.2.1 d.2.2.2.2.2.1 d.2.2.2.2.2.2.1 d.2.2.2.2.2.2.2.1 d.2.2.2.2.2.2.2.2.1 d.2.2.2.2.2.2.2.2.2.1 d.2.2.2.2.2.2.2.2.2.2.1 d.2.2.2.2.2.2.2.2.2.2.2.1 d.2.2.2.2.2.2.2.2.2.2.2.2.1 d.2.2.2.2.2.2.2.2.2.2.2.2.2.1 d.2.2.2.2.2.2.2.2.2.2.2.2.2.2.1 d.2.2.2.2.2.2.2.2.2.2.2.2.2.2.2.1) (fun d => Cq d.1 d.2.1 d.2.2.1 d.2.2.2.1 d.2.2.2.2.1 d.2.2.2.2.2.1 d.2.2.2.2.2.2.1 d.2.2.2.2.2.2.2.1 d.2.2.2.2.2.2.2.2.1 d.2.2.2.2.2.2.2.2.2.1 d.2.2.2.2.2.2.2.2.2.2.1 d.2.2.2.2.2.2.2.2.2.2.2.1 d.2.2.2.2.2.2.2.2.2.2.2.2.1 d.2.2.2.2.2.2.2.2.2.2.2.2.2.1 d.2.2.2.2.2.2.2.2.2.2.2.2.2.2.1 d.2.2.2.2.2.2.2.2.2.2.2.2.2.2.2.1) M8 Q0 trivial (fun f NX (d : (Int) × (Int) × (Int) × (Int) × (Bool) × (ByteArray) × (Int) × (Int) × (List ByteArray) × (List Wr) × (Int) × (Int) × (Int) × (Int) × (List ByteArray) × (List ByteArray) × Unit) => by unfold Ev; simp only [Ay, Ba, Ar, Option.bind_assoc, Option.bind_none, Option.bind_some]) (fun _ _ _ => by kernel_rfl)
theorem c7 : D4 Try.prog 46 sd_impl_Scan :=
 B9 (pat := pa_impl_Scan) [co_impl_Scan_9] S7 Q0 ⟨Wp, trivial⟩ Try.func46 (de := fun x => Lg x.1 x.2.1 x.2.2.1 x.2.2.2.1 x.2.2.2.2.1 x.2.2.2.2.2.1) (fun x r h => (b8 x.1 x.2.1 x.2.2.1 x.2.2.2.1 x.2.2.2.2.1 x.2.2.2.2.2.1).trans h) fun _ => by kernel_rfl
def Hd (_ : ByteArray) (_ _ _ : Int) (_ : List ByteArray) (_ _ : Int) (_ : List ByteArray) (_ : List Wr) : Nat := 4
def Xj : Sig := ⟨[.rd (.sl (.int .u8))], [none], [.rd .bool], [none]⟩
noncomputable def ta_laws_FnLog : Tb := tb [(27, sd_impl_FormPage), (38, sd_spec_DrawCut), (39, sd_impl_Cut), (40, sd_laws_wTexts), (41, sd_spec_Cut), (42, sd_impl_Pages), (43, sd_spec_Pages), (44, sd_impl_NewDisk), (45, sd_impl_Perform), (46, sd_impl_Scan)]
def pa_laws_FnLog : Nat → Pat × (Nat → Pat) := I4 [(14, ⟨[.sl 9 0 .str, .boxSl 8 0 .str, .boxSl 8 1 Hm], [(3, .lf (.d .str)), (4, .lf (.d tI)), (5, .lf (.d tI)), (6, .lf (.d tI)), (8, .lf (.ptr 0 0)), (9, .lf (.d (.sl .str))), (10, .lf (.d tI)), (11, .lf (.d tI))], [.box 60 [.d (.sl .str), .d (.sl Hm)]]⟩, [(2, ⟨[.sl 9 0 .str, .boxSl 8 0 .str, .boxSl 8 1 Hm], [(3, .lf (.d .str)), (4, .lf (.d tI)), (5, .lf (.d tI)), (6, .lf (.d tI)), (8, .lf (.ptr 0 0)), (9, .lf (.d (.sl .str))), (10, .lf (.d tI))], [.box 60 [.d (.sl .str), .d (.sl Hm)]]⟩)]), (18, ⟨[.sl 9 0 .str, .sl 12 0 .str, .boxSl 8 0 .str, .boxSl 8 1 Hm], [(3, .lf (.d .str)), (4, .lf (.d tI)), (5, .lf (.d tI)), (6, .lf (.d tI)), (8, .lf (.ptr 0 0)), (9, .lf (.d (.sl .str))), (10, .lf (.d tI)), (11, .lf (.d tI)), (12, .lf (.d (.sl .str))), (13, .lf (.d tI))], [.box 60 [.d (.sl .str), .d (.sl Hm)]]⟩, [(4, ⟨[.sl 9 0 .str, .boxSl 8 0 .str, .boxSl 8 1 Hm], [(3, .lf (.d .str)), (4, .lf (.d tI)), (5, .lf (.d tI)), (6, .lf (.d tI)), (8, .lf (.ptr 0 0)), (9, .lf (.d (.sl .str))), (10, .lf (.d tI)), (11, .lf (.d tI))], [.box 60 [.d (.sl .str), .d (.sl Hm)]]⟩)])]
noncomputable def co_laws_FnLog_14 : Code := (Aw (Cf Try.f7)).getD 0 .skip
noncomputable def co_laws_FnLog_18 : Code := (Aw co_laws_FnLog_14).getD 0 .skip
def E6 (v3 : ByteArray) (v4 : Int) (v5 : Int) (v6 : Int) (v9 : List ByteArray) (v10 : Int) (v11 : Int) (v12 : List ByteArray) (v13 : Int) (b0_0 : List ByteArray) (b0_1 : List Wr) : Nat := ((v12.length : Int) - v13).toNat + 1
noncomputable def D2 {R : Type}  (NX : ((ByteArray) × (Int) × (Int) × (Int) × (List ByteArray) × (Int) × (Int) × (List ByteArray) × (Int) × (List ByteArray) × (List Wr) × Unit) → Option R) (X4 : ((ByteArray) × (Int) × (Int) × (Int) × (List ByteArray) × (Int) × (Int) × (List ByteArray) × (List Wr) × Unit) → Option R) (v3 : ByteArray) (v4 : Int) (v5 : Int) (v6 : Int) (v9 : List ByteArray) (v10 : Int) (v11 : Int) (v12 : List ByteArray) (v13 : Int) (b0_0 : List ByteArray) (b0_1 : List Wr) : Option R :=
 bif decide (v13 < nI v12.length) then bif decide (0 ≤ v13) then bif decide (v13 < nI v12.length) then ((Bd (b0_0, b0_1, ()) [(false, IntKind.i64.wrap (2 + v10), v12.getD v13.toNat (ByteArray.mk #[]), ())] 1).bind fun val => some (val, ())).bind fun val => NX (v3, v4, v5, v6, v9, IntKind.i64.wrap (v10 + 1), v11, v12, IntKind.i64.wrap (v13 + 1), val.1) else none else none else X4 (v3, v4, v5, v6, v9, v10, v11, b0_0, b0_1, ())
noncomputable def Cg : Nat → (ByteArray) → (Int) → (Int) → (Int) → (List ByteArray) → (Int) → (Int) → (List ByteArray) → (Int) → (List ByteArray) → (List Wr) →  Option ((ByteArray) × (Int) × (Int) × (Int) × (List ByteArray) × (Int) × (Int) × (List ByteArray) × (List Wr) × Unit)
 | 0, _, _, _, _, _, _, _, _, _, _, _ => none
 | m + 1, v3, v4, v5, v6, v9, v10, v11, v12, v13, b0_0, b0_1 => D2  (fun d => Cg m d.1 d.2.1 d.2.2.1 d.2.2.2.1 d.2.2.2.2.1 d.2.2.2.2.2.1 d.2.2.2.2.2.2.1 d.2.2.2.2.2.2.2.1 d.2.2.2.2.2.2.2.2.1 d.2.2.2.2.2.2.2.2.2.1 d.2.2.2.2.2.2.2.2.2.2.1) (fun d => some (d)) v3 v4 v5 v6 v9 v10 v11 v12 v13 b0_0 b0_1
noncomputable def E7 (d : (ByteArray) × (Int) × (Int) × (Int) × (List ByteArray) × (Int) × (Int) × (List ByteArray) × (Int) × (List ByteArray) × (List Wr) × Unit) : Option ((ByteArray) × (Int) × (Int) × (Int) × (List ByteArray) × (Int) × (Int) × (List ByteArray) × (List Wr) × Unit) := Cg (E6 d.1 d.2.1 d.2.2.1 d.2.2.2.1 d.2.2.2.2.1 d.2.2.2.2.2.1 d.2.2.2.2.2.2.1 d.2.2.2.2.2.2.2.1 d.2.2.2.2.2.2.2.2.1 d.2.2.2.2.2.2.2.2.2.1 d.2.2.2.2.2.2.2.2.2.2.1) d.1 d.2.1 d.2.2.1 d.2.2.2.1 d.2.2.2.2.1 d.2.2.2.2.2.1 d.2.2.2.2.2.2.1 d.2.2.2.2.2.2.2.1 d.2.2.2.2.2.2.2.2.1 d.2.2.2.2.2.2.2.2.2.1 d.2.2.2.2.2.2.2.2.2.2.1
noncomputable def E8 {R : Type} (LO18 : ((ByteArray) × (Int) × (Int) × (Int) × (List ByteArray) × (Int) × (Int) × (List ByteArray) × (Int) × (List ByteArray) × (List Wr) × Unit) → Option ((ByteArray) × (Int) × (Int) × (Int) × (List ByteArray) × (Int) × (Int) × (List ByteArray) × (List Wr) × Unit)) (NX : ((ByteArray) × (Int) × (Int) × (Int) × (List ByteArray) × (Int) × (Int) × (List ByteArray) × (List Wr) × Unit) → Option R) (X2 : ((ByteArray) × (Int) × (Int) × (Int) × (List ByteArray) × (Int) × (List ByteArray) × (List Wr) × Unit) → Option R) (v3 : ByteArray) (v4 : Int) (v5 : Int) (v6 : Int) (v9 : List ByteArray) (v10 : Int) (v11 : Int) (b0_0 : List ByteArray) (b0_1 : List Wr) : Option R :=
 bif decide (v11 < 3) then bif decide (0 ≤ v11) then bif decide (v11 < nI v9.length) then ((C1 (v9.getD v11.toNat (ByteArray.mk #[])) (IntKind.i64.wrap (v4 + 1)) (IntKind.i64.wrap (v5 + v10)) v6).bind fun val => some ((val, ()), ())).bind fun val => (LO18 (v3, v4, v5, v6, v9, v10, v11, val.1.1, 0, b0_0, b0_1, ())).bind fun val => NX (val.1, val.2.1, val.2.2.1, val.2.2.2.1, val.2.2.2.2.1, val.2.2.2.2.2.1, IntKind.i64.wrap (val.2.2.2.2.2.2.1 + 1), val.2.2.2.2.2.2.2) else none else none else X2 (v3, v4, v5, v6, v9, v10, b0_0, b0_1, ())
noncomputable def By : Nat → (ByteArray) → (Int) → (Int) → (Int) → (List ByteArray) → (Int) → (Int) → (List ByteArray) → (List Wr) →  Option ((ByteArray) × (Int) × (Int) × (Int) × (List ByteArray) × (Int) × (List ByteArray) × (List Wr) × Unit)
 | 0, _, _, _, _, _, _, _, _, _ => none
 | m + 1, v3, v4, v5, v6, v9, v10, v11, b0_0, b0_1 => E8 E7 (fun d => By m d.1 d.2.1 d.2.2.1 d.2.2.2.1 d.2.2.2.2.1 d.2.2.2.2.2.1 d.2.2.2.2.2.2.1 d.2.2.2.2.2.2.2.1 d.2.2.2.2.2.2.2.2.1) (fun d => some (d)) v3 v4 v5 v6 v9 v10 v11 b0_0 b0_1
noncomputable def Hh (a0 : List Int) : Option ((((Bool) × Unit) × (Unit))) :=
 bif decide (nI a0.length > 1048576) then some ((true, ()), ()) else (m_spec_DrawCut a0).bind fun val => ((C1 val.1.1 val.1.2.1 val.1.2.2.1 val.1.2.2.2.1).bind fun val => some ((val, ()), ())).bind fun val_1 => ((Iz val.1.1 val.1.2.1 val.1.2.2.1 val.1.2.2.2.1).bind fun val => some ((val, ()), ())).bind fun val_2 => ((Bt val_1.1.1 val_2.1.1).bind fun val => some ((val, ()), ())).bind fun val_3 => bif !val_3.1.1 then some ((false, ()), ()) else ((B2 val.1.1 val.1.2.2.2.1).bind fun val => some ((val, ()), ())).bind fun val_4 => ((Dl val.1.1 val.1.2.2.2.1).bind fun val => some ((val, ()), ())).bind fun val_5 => bif val_4.1.1 != val_5.1.1 then some ((false, ()), ()) else bif nI (List.length val_1.1.1) == 0 then bif nI (List.length val_1.1.1) == 0 then some ((true, ()), ()) else ((B2 val.1.1 val.1.2.2.2.1).bind fun val => some ((val, ()), ())).bind fun val => some ((nI (List.length val_1.1.1) == val.1.1, ()), ()) else bif decide (nI (ByteArray.size val.1.1) > 300) then bif nI (List.length val_1.1.1) == 0 then some ((true, ()), ()) else ((B2 val.1.1 val.1.2.2.2.1).bind fun val => some ((val, ()), ())).bind fun val => some ((nI (List.length val_1.1.1) == val.1.1, ()), ()) else bif decide (val.1.2.2.1 > 999999900) then bif nI (List.length val_1.1.1) == 0 then some ((true, ()), ()) else ((B2 val.1.1 val.1.2.2.2.1).bind fun val => some ((val, ()), ())).bind fun val => some ((nI (List.length val_1.1.1) == val.1.1, ()), ()) else bif decide (val.1.2.1 > 59998) then bif nI (List.length val_1.1.1) == 0 then some ((true, ()), ()) else ((B2 val.1.1 val.1.2.2.2.1).bind fun val => some ((val, ()), ())).bind fun val => some ((nI (List.length val_1.1.1) == val.1.1, ()), ()) else bif decide (ByteArray.size val.1.1 + (ByteArray.mk #[101, 110, 100]).size ≤ 9223372036854775807) then ((fun d => By (Hd d.1 d.2.1 d.2.2.1 d.2.2.2.1 d.2.2.2.2.1 d.2.2.2.2.2.1 d.2.2.2.2.2.2.1 d.2.2.2.2.2.2.2.1 d.2.2.2.2.2.2.2.2.1) d.1 d.2.1 d.2.2.1 d.2.2.2.1 d.2.2.2.2.1 d.2.2.2.2.2.1 d.2.2.2.2.2.2.1 d.2.2.2.2.2.2.2.1 d.2.2.2.2.2.2.2.2.1) (val.1.1, val.1.2.1, val.1.2.2.1, val.1.2.2.2.1, [val.1.1, ByteArray.mk #[], val.1.1 ++ ByteArray.mk #[101, 110, 100]], 0, 0, D0 100)).bind fun val => ((Bt (Ao val.2.2.2.2.2.2 2 90 val.2.2.1 val.2.1 val.2.2.2.1).1 val.2.2.2.2.1).bind fun val => some ((val, ()), ())).bind fun val_6 => bif !val_6.1.1 then some ((false, ()), ()) else bif (Ao val.2.2.2.2.2.2 2 90 val.2.2.1 val.2.1 val.2.2.2.1).2.1 != val.2.2.2.2.2.1 then some ((false, ()), ()) else bif (Ao val.2.2.2.2.2.2 2 90 val.2.2.1 val.2.1 val.2.2.2.1).2.2.1 != IntKind.i64.wrap (val.2.1 + 1) then some ((false, ()), ()) else ((Dl val.1 val.2.2.2.1).bind fun val => some ((val, ()), ())).bind fun val_7 => bif decide (ByteArray.size val.1 + (ByteArray.mk #[101, 110, 100]).size ≤ 9223372036854775807) then ((Dl (val.1 ++ ByteArray.mk #[101, 110, 100]) val.2.2.2.1).bind fun val => some ((val, ()), ())).bind fun val_8 => bif val.2.2.2.2.2.1 != IntKind.i64.wrap (IntKind.i64.wrap (val_7.1.1 + 1) + val_8.1.1) then some ((false, ()), ()) else ((C1 (ByteArray.mk #[111, 108, 100]) val.2.1 (IntKind.i64.wrap (val.2.2.1 + val.2.2.2.2.2.1)) val.2.2.2.1).bind fun val => some ((val, ()), ())).bind fun val_9 => bif decide (0 < nI (List.length val_9.1.1)) then ((Bd val.2.2.2.2.2.2 [(false, IntKind.i64.wrap (2 + val.2.2.2.2.2.1), List.getD val_9.1.1 (Int.toNat 0) (ByteArray.mk #[]), ())] 1).bind fun val => some (val, ())).bind fun val_10 => ((Bd val.2.2.2.2.2.2 [(false, IntKind.i64.wrap (1 + val.2.2.2.2.2.1), strOfNums (List.replicate (Int.toNat 64) 0), ())] 1).bind fun val => some (val, ())).bind fun val_11 => ((C1 (strOfNums (List.replicate (Int.toNat 120) 0)) (IntKind.i64.wrap (val.2.1 + 1)) (IntKind.i64.wrap (val.2.2.1 + val.2.2.2.2.2.1)) val.2.2.2.1).bind fun val => some ((val, ()), ())).bind fun val_12 => bif decide (0 < nI (List.length val_12.1.1)) then ((Bd val.2.2.2.2.2.2 [(false, IntKind.i64.wrap (2 + val.2.2.2.2.2.1), List.getD val_12.1.1 (Int.toNat 0) (ByteArray.mk #[]), ())] 1).bind fun val => some (val, ())).bind fun val_13 => ((C1 (ByteArray.mk #[110, 101, 120, 116]) (IntKind.i64.wrap (val.2.1 + 2)) (IntKind.i64.wrap (IntKind.i64.wrap (val.2.2.1 + val.2.2.2.2.2.1) + 1)) val.2.2.2.1).bind fun val => some ((val, ()), ())).bind fun val_14 => bif decide (0 < nI (List.length val_14.1.1)) then ((Bd val_13.1 [(false, IntKind.i64.wrap (3 + val.2.2.2.2.2.1), List.getD val_14.1.1 (Int.toNat 0) (ByteArray.mk #[]), ())] 1).bind fun val => some (val, ())).bind fun val_15 => ((Bd val_13.1 [(false, IntKind.i64.wrap (3 + val.2.2.2.2.2.1), Bv (3, IntKind.i64.wrap (val.2.1 + 2), IntKind.i64.wrap (IntKind.i64.wrap (val.2.2.1 + val.2.2.2.2.2.1) + 1), ByteArray.mk #[], ()) val.2.2.2.1, ())] 1).bind fun val => some (val, ())).bind fun val_16 => ((Bt (Ao val_15.1 2 90 val.2.2.1 val.2.1 val.2.2.2.1).1 val.2.2.2.2.1).bind fun val => some ((val, ()), ())).bind fun val_17 => bif !val_17.1.1 then some ((false, ()), ()) else bif (Ao val_15.1 2 90 val.2.2.1 val.2.1 val.2.2.2.1).2.1 != val.2.2.2.2.2.1 then some ((false, ()), ()) else ((Bt (Ao val_16.1 2 90 val.2.2.1 val.2.1 val.2.2.2.1).1 val.2.2.2.2.1).bind fun val => some ((val, ()), ())).bind fun val_18 => bif !val_18.1.1 then some ((false, ()), ()) else bif (Ao val_16.1 2 90 val.2.2.1 val.2.1 val.2.2.2.1).2.1 != val.2.2.2.2.2.1 then some ((false, ()), ()) else bif (Ao val_16.1 2 90 val.2.2.1 val.2.1 val.2.2.2.1).2.2.1 != IntKind.i64.wrap (val.2.1 + 1) then some ((false, ()), ()) else ((Bt (Ao val_10.1 2 90 val.2.2.1 val.2.1 val.2.2.2.1).1 val.2.2.2.2.1).bind fun val => some ((val, ()), ())).bind fun val_19 => bif val_19.1.1 then bif decide (2 ≤ nI (List.length val.2.2.2.2.1)) then ((Bt (Ao val_11.1 2 90 val.2.2.1 val.2.1 val.2.2.2.1).1 (List.drop (Int.toNat 0) (List.take (Int.toNat 2) val.2.2.2.2.1))).bind fun val => some ((val, ()), ())).bind fun val_20 => bif val_20.1.1 then bif decide (2 ≤ nI (List.length val.2.2.2.2.1)) then ((Bt (Ao val.2.2.2.2.2.2 2 (IntKind.i64.wrap (val.2.2.2.2.2.1 - 1)) val.2.2.1 val.2.1 val.2.2.2.1).1 (List.drop (Int.toNat 0) (List.take (Int.toNat 2) val.2.2.2.2.1))).bind fun val => some ((val, ()), ())).bind fun val_21 => bif val_21.1.1 then ((Dl val.1 val.2.2.2.1).bind fun val => some ((val, ()), ())).bind fun val_22 => bif (Ao val_11.1 2 90 val.2.2.1 val.2.1 val.2.2.2.1).2.1 == IntKind.i64.wrap (val_22.1.1 + 1) then some ((nI (Ao val.2.2.2.2.2.2 2 90 (IntKind.i64.wrap (val.2.2.1 + 1)) val.2.1 val.2.2.2.1).1.length == 0, ()), ()) else some ((false, ()), ()) else some ((false, ()), ()) else none else some ((false, ()), ()) else none else some ((false, ()), ()) else none else none else none else none else none
noncomputable def sd_laws_FnLog : SD := ⟨Xj, fun x => Hh x.1⟩
theorem Ahs (e : ByteArray) (l f w : Int) (V : List ByteArray) (k : Int) (C : List ByteArray) (hC : ∀ x ∈ C, x.size = 64) : ∀ (R : List ByteArray) (m i : Nat) (A : List ByteArray) (d : Dk), C.drop i = R → R.length < m → A.length + R.length ≤ 80 → C.length ≤ 80 → LD d (lay A) A.length →
  ∃ d', Cg m e l f w V A.length k C i d.1 d.2.1 = some (e, l, f, w, V, ((A ++ R).length : Int), k, d'.1, d'.2.1, ()) ∧ LD d' (lay (A ++ R)) (A ++ R).length
 | [], m + 1, i, A, d, hR, _, _, _, h => by
  refine ⟨d, ?_, by rw [List.append_nil]; exact h⟩
  have hi : C.length ≤ i := List.drop_eq_nil_iff.1 hR
  simp only [Cg, D2]
  rw [decide_eq_false (show ¬ (i : Int) < nI C.length by simp only [nI]; omega), List.append_nil]
  rfl
 | x :: R, m + 1, i, A, d, hR, hm, hA, hl, h => by
  obtain ⟨hi, hx, hR'⟩ := Adk hR
  simp only [List.length_cons] at hm hA
  have hmem : x ∈ C := by
   have : x ∈ C.drop i := by rw [hR]; simp
   exact List.mem_of_mem_drop this
  obtain ⟨p1, p2⟩ := h.app (x := x) (by omega) (by omega) (hC x hmem)
  have ih := Ahs e l f w V k C hC R m (i + 1) (A ++ [x]) (put d (2 + (A.length : Int)) x) hR' (by omega) (by rw [List.length_append, List.length_singleton]; omega) hl (by rw [List.length_append, List.length_singleton]; exact p2)
  obtain ⟨d', q1, q2⟩ := ih
  refine ⟨d', ?_, by rw [List.append_assoc] at q2; exact q2⟩
  have e1 : Bd (d.1, d.2.1, ()) [(false, 2 + (A.length : Int), x, ())] 1 = some (put d (2 + (A.length : Int)) x) := (if_pos (show 1 ≤ 1099511627776 by decide)).trans (congrArg some p1)
  have e2 : ((A ++ [x]).length : Int) = (A.length : Int) + 1 := by simp
  rw [List.append_assoc, e2] at q1
  show Cg (m + 1) e l f w V A.length k C i d.1 d.2.1 = _
  simp only [Cg, D2]
  rw [cLt hi, Rr, Int.toNat_natCast, hx, Ac (n := 2 + (A.length : Int)) (by omega) (by omega), e1, Ac (n := (A.length : Int) + 1) (by omega) (by omega), wI (show i < 4611686018427387904 by omega)]
  exact q1
theorem Afy {e : ByteArray} {l f w : Int} {V : List ByteArray} (hV : V.length = 3) {s : ByteArray} {k : Nat} (hk : k < 3) (hs : V.getD k (ByteArray.mk #[]) = s) (hz : s.size ≤ 310) (hw : Cb w 1 8 = true) (hl : Cb (l + 1) 1 60000 = true) (f0 : 1 ≤ f) (f1 : f ≤ 999999900) {A : List ByteArray} {d : Dk} (h : LD d (lay A) A.length) (hA : A.length ≤ 40) (m : Nat) :
  ∃ d', By (m + 1) e l f w V A.length k d.1 d.2.1 = By m e l f w V (G4 (l + 1) w f A s).length ((k + 1 : Nat) : Int) d'.1 d'.2.1 ∧ LD d' (lay (G4 (l + 1) w f A s)) (G4 (l + 1) w f A s).length := by
 obtain ⟨l1, l2⟩ := Ei hl
 obtain ⟨n1, n2⟩ := F2 hw hz
 obtain ⟨k1, _, _⟩ := Mp s hw
 have hC := Ach hw hl (Ag s w) (f + (A.length : Int)) k1 (by omega) (by omega)
 have hn : (Ep (l + 1) w (f + (A.length : Int)) (Ag s w)).length = (Ag s w).length := (Lb _ _ _ _).1
 have ec : C1 s (l + 1) (f + (A.length : Int)) w = some (Ep (l + 1) w (f + (A.length : Int)) (Ag s w)) := (if_pos (show s.size ≤ 1048576 by omega)).trans (congrArg some (Afl hw hl (by omega) (by omega)))
 obtain ⟨d', q1, q2⟩ := Ahs e l f w V k _ hC _ (E6 e l f w V A.length k (Ep (l + 1) w (f + (A.length : Int)) (Ag s w)) 0 d.1 d.2.1) 0 A d (List.drop_zero) (by rw [hn]; simp only [E6]; rw [hn]; omega) (by omega) (by omega) h
 refine ⟨d', ?_, q2⟩
 have q1 : E7 (e, l, f, w, V, (A.length : Int), (k : Int), Ep (l + 1) w (f + (A.length : Int)) (Ag s w), 0, d.1, d.2.1, ()) = _ := q1
 simp only [By, E8]
 rw [decide_eq_true (show (k : Int) < 3 by omega), Rr, decide_eq_true (show (k : Int) < nI V.length by simp only [nI]; omega), Int.toNat_natCast, hs, Ac (n := l + 1) (by omega) (by omega), Ac (n := f + (A.length : Int)) (by omega) (by omega), ec]
 simp only [cond_true, Option.bind_some]
 rw [q1]
 simp only [Option.bind_some]
 rw [wI (show k < 4611686018427387904 by omega)]
 rfl
theorem Ag8 {w first life : Int} {e e3 : ByteArray} (h : Hu w first life e e3) :
  ∃ d' : Dk, By 4 e life first w [e, ⟨#[]⟩, e3] 0 0 (K9 100).1 (K9 100).2.1 = some (e, life, first, w, [e, ⟨#[]⟩, e3], ((F4 w first life e e3).length : Int), d'.1, d'.2.1, ()) ∧ LD d' (lay (F4 w first life e e3)) (F4 w first life e e3).length := by
 have kn := h.num
 have kl := h.len
 obtain ⟨d1, a1, b1⟩ := Afy (e := e) (s := e) (V := [e, ⟨#[]⟩, e3]) rfl (show 0 < 3 by decide) rfl h.e h.w h.l h.f0 h.f1 LD.new (by decide) 3
 obtain ⟨d2, a2, b2⟩ := Afy (e := e) (V := [e, ⟨#[]⟩, e3]) (s := ⟨#[]⟩) rfl (show 1 < 3 by decide) rfl (by decide) h.w h.l h.f0 h.f1 b1 (by have : (G4 (life + 1) w first [] e).length = (Ag e w).length := kl.1; omega) 2
 obtain ⟨d3, a3, b3⟩ := Afy (e := e) (s := e3) (V := [e, ⟨#[]⟩, e3]) rfl (show 2 < 3 by decide) rfl h.e3 h.w h.l h.f0 h.f1 b2 (by have : (G4 (life + 1) w first (G4 (life + 1) w first [] e) ⟨#[]⟩).length = (Ag e w).length + 1 := kl.2.1; omega) 1
 refine ⟨d3, ?_, b3⟩
 exact (a1.trans (a2.trans a3)).trans rfl
theorem As.at {α β : Type} {o : Option α} {a : α} {g : α → Option β} {S : β → Prop} (h : o = Option.some a) (k : As (g a) S) : As (o.bind g) S := by
 rw [h]
 exact k
theorem Fw {l m : List ByteArray} (h : l = m) (hl : m.length ≤ 1073741824) : Bt l m = some true := by
 subst h
 exact (if_pos hl).trans (congrArg some (Vv (fun x => Qh .str x) l))
theorem Sf {w lf f : Int} {s : ByteArray} (hw : Cb w 1 8 = true) (hs : s.size ≤ 310) (l1 : 1 ≤ lf) (l2 : lf ≤ 60000) (f0 : 1 ≤ f) (f1 : f ≤ 999999950) :
  ∃ k p r, (k = 1 ∨ k = 2) ∧ (2 ≤ (Ag s w).length → k = 1) ∧ C1 s lf f w = some (A8 (k, lf, f, p, ()) w :: r) ∧ Bk (k, lf, f, p, ()) w = true := by
 have hl : Cb lf 1 60000 = true := by unfold Cb; rw [decide_eq_true l1, decide_eq_true l2]; rfl
 obtain ⟨n1, n2⟩ := F2 hw hs
 obtain ⟨k1, _, k3⟩ := Mp s hw
 obtain ⟨k, p, r, g1, g2, g3, g4⟩ := p8 lf w f (Ag s w) k3
 refine ⟨k, p, r, g1, g3, ?_, Ld hw hl g1 f0 (by omega) (k1 p g2)⟩
 exact (if_pos (show s.size ≤ 1048576 by omega)).trans (congrArg some ((Afl hw hl f0 (by omega)).trans g4))
theorem Wq {d : Dk} {L : List ByteArray} {k : Nat} (h : LD d L k) (hk : k < 300) {a : Int} {j : Nat} (hj : j < 90) (ha : a = 2 + (j : Int)) {x : ByteArray} (hx : x.size = 64) :
  ∃ d', Bd d [(false, a, x, ())] 1 = some d' ∧ LD d' (L.set j x) (k + 1) := by
 subst ha
 obtain ⟨p1, p2⟩ := h.put hk hj hx
 exact ⟨_, (if_pos (show 1 ≤ 1099511627776 by decide)).trans (congrArg some p1), p2⟩
theorem Adl (a0 : List Int) (h0 : N0 (.sl (.int .u8)) a0) : Hh a0 = some ((true, ()), ()) := by
 apply As.law
 unfold Hh
 refine As.cond (fun _ => As.some rfl) fun _ => ?_
 refine As.bind (Aie a0 h0) fun q hq => ?_
 obtain ⟨⟨e, life, first, w, ⟨⟩⟩, ⟨⟩⟩ := q
 obtain ⟨z1, z2, z3, z4⟩ := hq
 dsimp only at z1 z2 z3 z4 ⊢
 have ec1 : C1 e life first w = some (Lw e life first w) := if_pos (show e.size ≤ 1048576 by omega)
 have ec2 : Iz e life first w = some (Lw e life first w) := if_pos (show e.size ≤ 1048576 by omega)
 have hlen : (Lw e life first w).length ≤ 5000 := by
  unfold Lw
  cases Cb w 1 8 && (Cb life 1 60000 && (decide (1 ≤ first) && decide (first ≤ 1000000000 - Cl e.size w + 1))) with
  | false => exact Nat.zero_le _
  | true => rw [cond_true, (Lb _ _ _ _).1]; exact Nat.le_trans (Jg _ _ _) (by omega)
 have ep1 : ∀ s : ByteArray, s.size ≤ 4010 → B2 s w = some (Cl s.size w) := fun s hs => if_pos (by omega)
 have ep2 : ∀ s : ByteArray, s.size ≤ 4010 → Dl s w = some (Cl s.size w) := fun s hs => (if_pos (show s.size ≤ 1099511627776 by omega)).trans (congrArg some (Kc s w))
 refine As.at (Cm ec1 rfl) ?_
 refine As.at (Cm ec2 rfl) ?_
 refine As.at (Cm (Fw rfl (Nat.le_trans hlen (by decide))) rfl) ?_
 refine As.no rfl ?_
 refine As.at (Cm (ep1 e (by omega)) rfl) ?_
 refine As.at (Cm (ep2 e (by omega)) rfl) ?_
 refine As.no (by simp) ?_
 refine As.cond (fun c => As.go c (As.some rfl)) fun c => ?_
 have hne : Lw e life first w ≠ [] := fun q => by
  have c : (nI (Lw e life first w).length == 0) = false := c
  rw [q] at c
  cases c
 have hall : (Cb w 1 8 && (Cb life 1 60000 && (decide (1 ≤ first) && decide (first ≤ 1000000000 - Cl e.size w + 1)))) = true := by
  cases hc : Cb w 1 8 && (Cb life 1 60000 && (decide (1 ≤ first) && decide (first ≤ 1000000000 - Cl e.size w + 1))) with
  | true => rfl
  | false => exact absurd (by unfold Lw; rw [hc]; rfl) hne
 obtain ⟨hw, g1⟩ := Dw hall
 obtain ⟨hl, g1⟩ := Dw g1
 obtain ⟨g1, g2⟩ := Dw g1
 have g1 := of_decide_eq_true g1
 obtain ⟨l1, l2⟩ := Ei hl
 obtain ⟨w1, w2⟩ := Ei hw
 have hcl : nI (Lw e life first w).length = Cl e.size w := by
  have hp := Kc e w
  rw [hw, cond_true] at hp
  rw [← hp]
  unfold Lw
  rw [hall, cond_true, (Lb _ _ _ _).1]
 refine As.cond (fun _ => As.no c (As.at (Cm (ep1 e (by omega)) rfl) (As.some (beq_iff_eq.2 hcl)))) fun c1 => ?_
 refine As.cond (fun _ => As.no c (As.at (Cm (ep1 e (by omega)) rfl) (As.some (beq_iff_eq.2 hcl)))) fun c2 => ?_
 refine As.cond (fun _ => As.no c (As.at (Cm (ep1 e (by omega)) rfl) (As.some (beq_iff_eq.2 hcl)))) fun c3 => ?_
 have c1 := of_decide_eq_false c1
 have c2 := of_decide_eq_false c2
 have c3 := of_decide_eq_false c3
 simp only [nI] at c1
 have h3 : (ByteArray.mk #[101, 110, 100]).size = 3 := rfl
 refine As.go (decide_eq_true (by rw [h3]; omega)) ?_
 generalize hE : e ++ ByteArray.mk #[101, 110, 100] = e3
 have hes : e3.size ≤ 310 := by rw [← hE, ByteArray.size_append, h3]; omega
 have h : Hu w first life e e3 := ⟨hw, l1, by omega, g1, by omega, by omega, hes⟩
 have kn := h.num
 have kl := h.len
 obtain ⟨⟨d1, d2, ⟨⟩⟩, r1, hd⟩ := Ag8 h
 have t0 := h.t0 hd
 have tN := h.t_next hd
 have tC := fun m hm => h.t_cut hd (m := m) hm
 have tS := @Hu.t_short _ _ _ _ _ h
 have tY := @Hu.t1 _ _ _ _ _ h
 have pe : Cl e.size w = ((Ag e w).length : Int) := by have hp := Kc e w; rw [hw, cond_true] at hp; exact hp.symm
 have pe3 : Cl e3.size w = ((Ag e3 w).length : Int) := by have hp := Kc e3 w; rw [hw, cond_true] at hp; exact hp.symm
 refine As.at r1 ?_
 generalize F4 w first life e e3 = A at *
 generalize hn : A.length = n at *
 have hZ : (strOfNums (List.replicate (Int.toNat 120) 0)).size = 120 := by decide +kernel
 have hz : strOfNums (List.replicate (Int.toNat 64) 0) = zS := rfl
 have hzs : zS.size = 64 := by decide +kernel
 rw [hz]
 generalize strOfNums (List.replicate (Int.toNat 120) 0) = Z at hZ ⊢
 generalize zS = zz at hzs tS hd ⊢
 dsimp only
 rw [hE]
 have u1 : IntKind.i64.wrap (life + 1) = life + 1 := Ac (by omega) (by omega)
 have u2 : IntKind.i64.wrap (first + (n : Int)) = first + (n : Int) := Ac (by omega) (by omega)
 have u3 : IntKind.i64.wrap (2 + (n : Int)) = 2 + (n : Int) := Ac (by omega) (by omega)
 have u4 : IntKind.i64.wrap (1 + (n : Int)) = 1 + (n : Int) := Ac (by omega) (by omega)
 have u5 : IntKind.i64.wrap (life + 2) = life + 2 := Ac (by omega) (by omega)
 have u6 : IntKind.i64.wrap (first + (n : Int) + 1) = first + (n : Int) + 1 := Ac (by omega) (by omega)
 have u7 : IntKind.i64.wrap (3 + (n : Int)) = 3 + (n : Int) := Ac (by omega) (by omega)
 have u8 : IntKind.i64.wrap ((n : Int) - 1) = (n : Int) - 1 := Ac (by omega) (by omega)
 have u9 : IntKind.i64.wrap (first + 1) = first + 1 := Ac (by omega) (by omega)
 simp only [u1, u2, u3, u4, u5, u6, u7, u8, u9]
 have t0 : Ao (d1, d2, ()) 2 90 first life w = ([e, ⟨#[]⟩, e3], (n : Int), life + 1, ()) := t0
 have tN : Ao (d1, d2, ()) 2 90 (first + 1) life w = ([], 0, life, ()) := tN
 have tC : Ao (d1, d2, ()) 2 ((n : Int) - 1) first life w = ([e, ⟨#[]⟩], ((Ag e w).length : Int) + 1, life + 1, ()) := tC _ rfl
 have l3 : ∀ a b c : ByteArray, [a, b, c].length ≤ 1073741824 := fun a b c => by simp
 have l2 : ∀ a b : ByteArray, [a, b].length ≤ 1073741824 := fun a b => by simp
 refine As.at (Cm (Fw (congrArg (fun x : Scd => x.1) t0) (l3 _ _ _)) rfl) ?_
 refine As.no rfl ?_
 refine As.no (by rw [t0]; simp) ?_
 refine As.no (by rw [t0]; simp) ?_
 refine As.at (Cm (ep2 e (by omega)) rfl) ?_
 refine As.go (decide_eq_true (by rw [h3]; omega)) ?_
 refine As.at (Cm (ep2 e3 (by omega)) rfl) ?_
 have ps1 := F2 hw h.e
 have ps2 := F2 hw hes
 refine As.no (by
  dsimp only
  rw [pe, pe3, Ac (n := ((Ag e w).length : Int) + 1) (by omega) (by omega), Ac (by omega) (by omega), bne_eq_false_iff_eq, kl.2.2]
  simp) ?_
 obtain ⟨k9, p9, r9, a9, _, b9, ok9⟩ := Sf (s := ByteArray.mk #[111, 108, 100]) (f := first + (n : Int)) hw (by decide) (show 1 ≤ life by omega) (by omega) (by omega) (by omega)
 refine As.at (Cm b9 rfl) ?_
 refine As.go (by simp [nI]) ?_
 obtain ⟨d10, f10, h10⟩ := Wq hd (by omega) (a := 2 + (n : Int)) (j := n) (by omega) rfl (H8 ok9)
 refine As.at (Cm f10 rfl) ?_
 obtain ⟨d11, f11, h11⟩ := Wq hd (by omega) (a := 1 + (n : Int)) (j := n - 1) (by omega) (by omega) hzs
 refine As.at (Cm f11 rfl) ?_
 obtain ⟨k12, p12, r12, a12, c12, b12, ok12⟩ := Sf (s := Z) (lf := life + 1) (f := first + (n : Int)) hw (by omega) (by omega) (by omega) (by omega) (by omega)
 have c12 := c12 (Adj hw hZ)
 subst c12
 refine As.at (Cm b12 rfl) ?_
 refine As.go (by simp [nI]) ?_
 obtain ⟨d13, f13, h13⟩ := Wq hd (by omega) (a := 2 + (n : Int)) (j := n) (by omega) rfl (H8 ok12)
 refine As.at (Cm f13 rfl) ?_
 obtain ⟨k14, p14, r14, a14, _, b14, ok14⟩ := Sf (s := ByteArray.mk #[110, 101, 120, 116]) (lf := life + 2) (f := first + (n : Int) + 1) hw (by decide) (by omega) (by omega) (by omega) (by omega)
 refine As.at (Cm b14 rfl) ?_
 refine As.go (by simp [nI]) ?_
 obtain ⟨d15, f15, h15⟩ := Wq h13 (by omega) (a := 3 + (n : Int)) (j := n + 1) (by omega) (by omega) (H8 ok14)
 refine As.at (Cm f15 rfl) ?_
 have ok16 : Bk (3, life + 2, first + (n : Int) + 1, ByteArray.mk #[], ()) w = true := by
  unfold Bk Cb
  unfold Cb at hw
  simp only [hw, Bool.true_and]
  rw [decide_eq_true (show 1 ≤ life + 2 by omega), decide_eq_true (show life + 2 ≤ 60000 by omega), decide_eq_true (show 1 ≤ first + (n : Int) + 1 by omega), decide_eq_true (show first + (n : Int) + 1 ≤ 1000000000 by omega), decide_eq_true (show ((ByteArray.mk #[]).size : Int) ≤ 56 - w by show (0 : Int) ≤ 56 - w; omega)]
  rw [show ((ByteArray.mk #[]).toList == []) = true by decide +kernel]
  rfl
 obtain ⟨d16, f16, h16⟩ := Wq h13 (by omega) (a := 3 + (n : Int)) (j := n + 1) (by omega) (by omega) (H8 ok16)
 refine As.at (Cm f16 rfl) ?_
 obtain ⟨R10, e10, _⟩ := Aci (A := A) (by omega) (A8 (k9, life, first + (n : Int), p9, ()) w) zz
 rw [hn] at e10
 rw [e10] at h10
 have t10 : Ao d10 2 90 first life w = ([e, ⟨#[]⟩, e3], (n : Int), life + 1, ()) := tY h10 fun i hi => (Afo ok9 (by show life < life + 1; omega)).symm
 have s12 : ∀ (R : List ByteArray) (i : Int), i = (n : Int) → Bl w first (A8 (1, life + 1, first + (n : Int), p12, ()) w :: R) i (2, life + 1, z0, [e, ⟨#[]⟩, e3], (n : Int), life + 1) = Bl w first R (i + 1) (1, life + 1, z0 ++ p12, [e, ⟨#[]⟩, e3], (n : Int), life + 1) := fun R i hi => by
  subst hi
  rw [Nl (by rw [G3 ok12, Nn (.inl rfl) (Int.le_refl _) (fun _ => rfl)]; simp), H7 ok12]
  rfl
 have hY : ∀ {k : Int} {p : ByteArray} {d' : Dk} {m : Nat}, k = 1 ∨ k = 2 ∨ k = 3 → Bk (k, life + 2, first + (n : Int) + 1, p, ()) w = true → LD d' (((lay A).set n (A8 (1, life + 1, first + (n : Int), p12, ()) w)).set (n + 1) (A8 (k, life + 2, first + (n : Int) + 1, p, ()) w)) m →
   Ao d' 2 90 first life w = ([e, ⟨#[]⟩, e3], (n : Int), life + 1, ()) := fun {k p d' m} hk ok hh => by
  obtain ⟨R, _, q⟩ := Aci (A := A) (by omega) (A8 (1, life + 1, first + (n : Int), p12, ()) w) (A8 (k, life + 2, first + (n : Int) + 1, p, ()) w)
  rw [hn] at q
  rw [q] at hh
  refine tY hh fun i hi => ?_
  rw [s12 _ i hi, Aa9 ok hk rfl (by show life + 1 ≠ life + 2; omega)]
  rfl
 have t15 := hY (a14.imp id .inl) ok14 h15
 have t16 := hY (.inr (.inr rfl)) ok16 h16
 have t11 : Ao d11 2 90 first life w = ([e, ⟨#[]⟩], ((Ag e w).length : Int) + 1, life + 1, ()) := tS h11
 clear tY tS hY s12
 refine As.at (Cm (Fw (congrArg (fun x : Scd => x.1) t15) (l3 _ _ _)) rfl) ?_
 refine As.no rfl ?_
 refine As.no (by rw [t15]; simp) ?_
 refine As.at (Cm (Fw (congrArg (fun x : Scd => x.1) t16) (l3 _ _ _)) rfl) ?_
 refine As.no rfl ?_
 refine As.no (by rw [t16]; simp) ?_
 refine As.no (by rw [t16]; simp) ?_
 refine As.at (Cm (Fw (congrArg (fun x : Scd => x.1) t10) (l3 _ _ _)) rfl) ?_
 refine As.go rfl ?_
 refine As.go (by simp [nI]) ?_
 refine As.at (Cm (Fw ((congrArg (fun x : Scd => x.1) t11).trans rfl) (l2 e ⟨#[]⟩)) rfl) ?_
 refine As.go rfl ?_
 refine As.go (by simp [nI]) ?_
 refine As.at (Cm (Fw ((congrArg (fun x : Scd => x.1) tC).trans rfl) (l2 e ⟨#[]⟩)) rfl) ?_
 refine As.go rfl ?_
 refine As.at (Cm (ep2 e (by omega)) rfl) ?_
 refine As.go (by
  dsimp only
  rw [t11, pe, Ac (n := ((Ag e w).length : Int) + 1) (by omega) (by omega)]
  exact beq_self_eq_true _) ?_
 refine As.some ?_
 dsimp only
 rw [tN]
 rfl
noncomputable def Kk {R : Type} (k : Kt R) := (Ph (pa_laws_FnLog 14) (.exit 0) 2 k)
noncomputable def Kl {R : Type} (k : Kt R) := (Ph (pa_laws_FnLog 18) (.exit 2) 4 k)
noncomputable def Lh {R : Type} : Lt R pa_laws_FnLog := (Ho (pat := pa_laws_FnLog) 14 (fun d k => (By (Hd d.1 d.2.1 d.2.2.1 d.2.2.2.1 d.2.2.2.2.1 d.2.2.2.2.2.1 d.2.2.2.2.2.2.1 d.2.2.2.2.2.2.2.1 d.2.2.2.2.2.2.2.2.1) d.1 d.2.1 d.2.2.1 d.2.2.2.1 d.2.2.2.2.1 d.2.2.2.2.2.1 d.2.2.2.2.2.2.1 d.2.2.2.2.2.2.2.1 d.2.2.2.2.2.2.2.2.1).bind (Kk k)) (Ho (pat := pa_laws_FnLog) 18 (fun d k => (E7 d).bind (Kl k)) Lk))
theorem Jy : Az Try.prog ta_laws_FnLog := B8 ⟨G7, Ti, s9, Wh, x7, N5, Xg, To, Tr, c7, trivial⟩
theorem Sg {R : Type} : Bg Try.prog R 324 0 pa_laws_FnLog Lh co_laws_FnLog_18 :=
 Ed (cfg := ⟨ta_laws_FnLog, 0, 324, pa_laws_FnLog⟩) 18 [] (fun NX X d => D2  NX X d.1 d.2.1 d.2.2.1 d.2.2.2.1 d.2.2.2.2.1 d.2.2.2.2.2.1 d.2.2.2.2.2.2.1 d.2.2.2.2.2.2.2.1 d.2.2.2.2.2.2.2.2.1 d.2.2.2.2.2.2.2.2.2.1 d.2.2.2.2.2.2.2.2.2.2.1) (fun m d => Cg m d.1 d.2.1 d.2.2.1 d.2.2.2.1 d.2.2.2.2.1 d.2.2.2.2.2.1 d.2.2.2.2.2.2.1 d.2.2.2.2.2.2.2.1 d.2.2.2.2.2.2.2.2.1 d.2.2.2.2.2.2.2.2.2.1 d.2.2.2.2.2.2.2.2.2.2.1) (fun d => E6 d.1 d.2.1 d.2.2.1 d.2.2.2.1 d.2.2.2.2.1 d.2.2.2.2.2.1 d.2.2.2.2.2.2.1 d.2.2.2.2.2.2.2.1 d.2.2.2.2.2.2.2.2.1 d.2.2.2.2.2.2.2.2.2.1 d.2.2.2.2.2.2.2.2.2.2.1) Kl Jy trivial (fun f NX d => by unfold D2; simp only [Ay, Ba, Ar, Option.bind_assoc, Option.bind_none, Option.bind_some]) (fun _ _ _ => by kernel_rfl)
theorem Sh {R : Type} : Bg Try.prog R 324 0 pa_laws_FnLog Lh co_laws_FnLog_14 :=
 Ed (cfg := ⟨ta_laws_FnLog, 0, 324, pa_laws_FnLog⟩) 14 [co_laws_FnLog_18] (fun NX X d => E8 E7 NX X d.1 d.2.1 d.2.2.1 d.2.2.2.1 d.2.2.2.2.1 d.2.2.2.2.2.1 d.2.2.2.2.2.2.1 d.2.2.2.2.2.2.2.1 d.2.2.2.2.2.2.2.2.1) (fun m d => By m d.1 d.2.1 d.2.2.1 d.2.2.2.1 d.2.2.2.2.1 d.2.2.2.2.2.1 d.2.2.2.2.2.2.1 d.2.2.2.2.2.2.2.1 d.2.2.2.2.2.2.2.2.1) (fun d => Hd d.1 d.2.1 d.2.2.1 d.2.2.2.1 d.2.2.2.2.1 d.2.2.2.2.2.1 d.2.2.2.2.2.2.1 d.2.2.2.2.2.2.2.1 d.2.2.2.2.2.2.2.2.1) Kk Jy ⟨Sg, trivial⟩ (fun f NX d => by unfold E8; simp only [Ay, Ba, Ar, Option.bind_assoc, Option.bind_none, Option.bind_some]) (fun _ _ _ => by kernel_rfl)
theorem Xk : D4 Try.prog 7 sd_laws_FnLog :=
 B9 (pat := pa_laws_FnLog) [co_laws_FnLog_14] Lh Jy ⟨Sh, trivial⟩ Try.func7 (de := fun x => Hh x.1) (fun x r h => h) fun _ => by kernel_rfl
end Go.Proofs.Ytkfoebbjncngjaa.V

