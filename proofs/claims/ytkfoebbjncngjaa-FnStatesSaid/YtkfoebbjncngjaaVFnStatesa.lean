/- What the functions that FnStates reaches come to: part 1. No condition. -/
import Derived.Test.YtkfoebbjncngjaaQBase
import Derived.Test.YtkfoebbjncngjaaTLay
import Derived.Test.YtkfoebbjncngjaaProg
import Derived.Test.YtkfoebbjncngjaaQS
import Derived.Test.YtkfoebbjncngjaaQA
import Derived.Test.YtkfoebbjncngjaaQT
import Derived.Test.YtkfoebbjncngjaaQD
import Derived.Test.YtkfoebbjncngjaaQP
import Derived.Test.YtkfoebbjncngjaaTSort
import Derived.KernelRfl
namespace Go.Proofs.Ytkfoebbjncngjaa.V
open Go Go.Proofs.Ytkfoebbjncngjaa.R Go.Proofs
set_option maxRecDepth 100000
set_option linter.unusedVariables false
set_option linter.unusedSimpArgs false
def Gq (v lo hi : Int) : Bool := M8 v lo hi
def x9 : Sig := ⟨[.rd tI, .rd tI, .rd tI], [none, none, none], [.rd .bool], [none]⟩
noncomputable def sd_impl_in : SD := ⟨x9, fun x => some (((Gq x.1 x.2.1 x.2.2.1), ()), (()))⟩
noncomputable def Ok (a0 : Int) (a1 : Int) (a2 : Int) : Option ((((Bool) × Unit) × (Unit))) :=
 bif decide (a0 ≥ a1) then some ((decide (a0 ≤ a2), ()), ()) else some ((false, ()), ())
theorem y5 (a0 a1 a2 : Int) : Ok a0 a1 a2 = some ((Gq a0 a1 a2, ()), ()) := by
 unfold Ok Gq M8
 by_cases h : a0 ≥ a1
 ·have : decide (a1 ≤ a0) = true := by simpa using h
  simp [h, this]
 ·have : decide (a1 ≤ a0) = false := by simpa using h
  simp [h, this]
theorem K4 : Fr Try.prog 83 sd_impl_in :=
 Dl (pat := P4) [] O6 (Dz (l := []) trivial) trivial Try.func83 (de := fun x => Ok x.1 x.2.1 x.2.2.1) (fun x r h => (y5 x.1 x.2.1 x.2.2.1).trans h) fun _ => by kernel_rfl
def F6 (k : ByteArray) : Bool := Fm k
def Sj : Sig := ⟨[.rd .str], [none], [.rd .bool], [none]⟩
noncomputable def sd_impl_goodKey : SD := ⟨Sj, fun x => some (((F6 x.1), ()), (()))⟩
noncomputable def La (a0 : ByteArray) : Option ((((Bool) × Unit) × (Unit))) :=
 some ((Gq (nI a0.size) 1 20, ()), ())
theorem Sk (a0 : ByteArray) : La a0 = some ((F6 a0, ()), ()) := rfl
theorem Lb : Fr Try.prog 111 sd_impl_goodKey :=
 Dl (pat := P4) [] O6 (Dz (l := [(83, sd_impl_in)]) ⟨K4, trivial⟩) trivial Try.func111 (de := fun x => La x.1) (fun x r h => (Sk x.1).trans h) fun _ => by kernel_rfl
def B0 (s : Stt) : Bool := Af s
def Ol : Sig := ⟨[.rd Uw], [some 1], [.rd .bool], [none]⟩
noncomputable def sd_impl_ValidState : SD := ⟨Ol, fun x => some (((B0 x.1), ()), (()))⟩
noncomputable def ta_impl_ValidState : Tb := tb [(111, sd_impl_goodKey)]
def pa_impl_ValidState : Nat → Pat × (Nat → Pat) := Jx [(5, ⟨[.sl 10 0 An, .boxSl 1 0 An], [(1, .lf (.ptr 0 0)), (10, .lf (.d (.sl An))), (11, .lf (.d tI)), (12, .lf (.d tI))], [.box 30 [.d (.sl An)]]⟩, [(2, p0), (1, ⟨[], [(2, .lf (.d .bool))], []⟩)])]
noncomputable def co_impl_ValidState_5 : Code := (At (B7 Try.f53)).getD 0 .skip
def Be (v10 : List Pr2) (v11 : Int) (v12 : Int) (b0_0 : List Pr2) : Nat := (v11 - v12).toNat + 1
noncomputable def Cc {R : Type}  (NX : ((List Pr2) × (Int) × (Int) × (List Pr2) × Unit) → Option R) (X2 : (Unit) → Option R) (X1 : ((Bool) × Unit) → Option R) (v10 : List Pr2) (v11 : Int) (v12 : Int) (b0_0 : List Pr2) : Option R :=
 bif decide (v12 < v11) then bif decide (0 ≤ v12) then bif decide (v12 < nI v10.length) then bif !F6 (v10.getD v12.toNat (ByteArray.mk #[], ByteArray.mk #[], ())).1 then X1 (false, ()) else bif decide (nI (ByteArray.size (v10.getD v12.toNat (ByteArray.mk #[], ByteArray.mk #[], ())).2.1) > 100) then X1 (false, ()) else bif decide (v12 > 0) then bif decide (0 ≤ IntKind.i64.wrap (v12 - 1)) then bif decide (IntKind.i64.wrap (v12 - 1) < nI b0_0.length) then bif !Op.bytesLess (ByteArray.toList (b0_0.getD (IntKind.i64.wrap (v12 - 1)).toNat (ByteArray.mk #[], ByteArray.mk #[], ())).1) (ByteArray.toList (v10.getD v12.toNat (ByteArray.mk #[], ByteArray.mk #[], ())).1) then X1 (false, ()) else NX (v10, v11, IntKind.i64.wrap (v12 + 1), b0_0, ()) else none else none else NX (v10, v11, IntKind.i64.wrap (v12 + 1), b0_0, ()) else none else none else X2 PUnit.unit
noncomputable def Ar : Nat → (List Pr2) → (Int) → (Int) → (List Pr2) →  Option ((Unit) ⊕ ((Bool) × Unit))
 | 0, _, _, _, _ => none
 | m + 1, v10, v11, v12, b0_0 => Cc  (fun d => Ar m d.1 d.2.1 d.2.2.1 d.2.2.2.1) (fun d => some (.inl (d))) (fun d => some (.inr (d))) v10 v11 v12 b0_0
noncomputable def Fe (a0 : Stt) : Option ((((Bool) × Unit) × (Unit))) :=
 bif decide (nI (List.length a0.1) > 100) then some ((false, ()), ()) else ((fun d => Ar (Be d.1 d.2.1 d.2.2.1 d.2.2.2.1) d.1 d.2.1 d.2.2.1 d.2.2.2.1) (a0.1, nI (List.length a0.1), 0, a0)).bind fun val => Eb (fun d => some ((true, ()), ())) (fun d => some (d, ())) val
theorem Om (a0 : Stt) : Fe a0 = some ((B0 a0, ()), ()) := by
 unfold Fe B0 Af
 have c1 : decide (nI a0.1.length > 100) = !decide (a0.1.length ≤ 100) := Xg _ 100
 by_cases hl : a0.1.length ≤ 100
 ·have hL := Ma (n := a0.1.length) (Em a0.1) (g := fun m i => Ar m a0.1 (nI a0.1.length) i a0.1) (ok := .inl ()) (bad := .inr (false, ())) (fun m i hi => by
   show Ar (m + 1) a0.1 (nI a0.1.length) i a0.1 = _
   simp only [Ar, Cc]
   have g1 : decide (nI (ByteArray.size (List.getD a0.1 i (ByteArray.mk #[], ByteArray.mk #[], ())).2.1) > 100) = !decide (ByteArray.size (List.getD a0.1 i zP).2.1 ≤ 100) := Xg _ 100
   rw [Zp hi, L9, wI (show i < 4611686018427387904 by omega), Int.toNat_natCast, gt0, g1]
   simp only [cond_true]
   unfold Em bl
   show (bif !Fm (List.getD a0.1 i zP).1 then _ else _) = _
   cases i with
   | zero =>
    show (bif !Fm (List.getD a0.1 0 zP).1 then _ else bif !decide (ByteArray.size (List.getD a0.1 0 zP).2.1 ≤ 100) then _ else _) = _
    cases Fm (List.getD a0.1 0 zP).1 <;> cases decide (ByteArray.size (List.getD a0.1 0 zP).2.1 ≤ 100) <;> rfl
   | succ j =>
    rw [wP j (by omega), L9, Zp (show j < a0.1.length by omega)]
    show (bif !Fm (List.getD a0.1 (j + 1) zP).1 then _ else bif !decide (ByteArray.size (List.getD a0.1 (j + 1) zP).2.1 ≤ 100) then _ else bif !Op.bytesLess (ByteArray.toList (List.getD a0.1 j zP).1) (ByteArray.toList (List.getD a0.1 (j + 1) zP).1) then _ else _) = _
    rw [Nat.add_sub_cancel]
    cases Fm (List.getD a0.1 (j + 1) zP).1 <;> cases decide (ByteArray.size (List.getD a0.1 (j + 1) zP).2.1 ≤ 100) <;> cases Op.bytesLess (ByteArray.toList (List.getD a0.1 j zP).1) (ByteArray.toList (List.getD a0.1 (j + 1) zP).1) <;> rfl) (fun m => by
   show Ar (m + 1) a0.1 (nI a0.1.length) (a0.1.length : Int) a0.1 = _
   simp only [Ar, Cc]
   rw [Q1]
   rfl) (Be a0.1 (nI a0.1.length) 0 a0.1) 0 (by omega) (by simp [Be, nI])
  have hL' : Ar (Be a0.1 (nI a0.1.length) 0 a0.1) a0.1 (nI a0.1.length) 0 a0.1 = _ := hL
  rw [c1, decide_eq_true hl]
  show (Ar (Be a0.1 (nI a0.1.length) 0 a0.1) a0.1 (nI a0.1.length) 0 a0.1).bind _ = _
  rw [hL']
  cases (List.range' 0 (a0.1.length - 0)).all (Em a0.1) <;> rfl
 ·rw [c1, decide_eq_false hl]
  rfl
noncomputable def G3 {R : Type} (k : Kt R) := (Eb (Nc (pa_impl_ValidState 5) (.exit 0) 2 k) (Nc (pa_impl_ValidState 5) .ret 1 k))
noncomputable def Ix {R : Type} : Lt R pa_impl_ValidState := (Hb (pat := pa_impl_ValidState) 5 (fun d k => (Ar (Be d.1 d.2.1 d.2.2.1 d.2.2.2.1) d.1 d.2.1 d.2.2.1 d.2.2.2.1).bind (G3 k)) O6)
theorem H7 : Az Try.prog ta_impl_ValidState := Dz ⟨Lb, trivial⟩
theorem Mh {R : Type} : Bb Try.prog R 44 0 pa_impl_ValidState Ix co_impl_ValidState_5 :=
 Ec (cfg := ⟨ta_impl_ValidState, 0, 44, pa_impl_ValidState⟩) 5 [] (fun NX X d => Cc  NX (fun e => X (.inl (e))) (fun e => X (.inr (e))) d.1 d.2.1 d.2.2.1 d.2.2.2.1) (fun m d => Ar m d.1 d.2.1 d.2.2.1 d.2.2.2.1) (fun d => Be d.1 d.2.1 d.2.2.1 d.2.2.2.1) G3 H7 trivial (fun f NX d => by unfold Cc; simp only [A2, A9, Au, Option.bind_assoc, Option.bind_none, Option.bind_some]) (fun _ _ _ => by kernel_rfl)
theorem D1 : Fr Try.prog 53 sd_impl_ValidState :=
 Dl (pat := pa_impl_ValidState) [co_impl_ValidState_5] Ix H7 ⟨Mh, trivial⟩ Try.func53 (de := fun x => Fe x.1) (fun x r h => (Om x.1).trans h) fun _ => by kernel_rfl
def Cn (s : Stt) : List (List Chg) := Cx s
def Q6 : Sig := ⟨[.rd Uw], [some 1], [.rd (.sl (.sl Cs))], [none]⟩
noncomputable def sd_impl_Snapshot : SD := ⟨Q6, fun x => some (((Cn x.1), ()), (()))⟩
noncomputable def ta_impl_Snapshot : Tb := tb [(53, sd_impl_ValidState)]
def pa_impl_Snapshot : Nat → Pat × (Nat → Pat) := Jx [(6, ⟨[.last 3 90 Cs, .sl 10 0 An], [(3, .lf (.row 0)), (10, .lf (.d (.sl An))), (11, .lf (.d tI)), (12, .lf (.d tI))], [.last 38 Cs 1, .row 90 Cs]⟩, [(2, ⟨[.last 3 90 Cs], [(3, .lf (.row 0))], [.last 38 Cs 1, .row 90 Cs]⟩)])]
noncomputable def co_impl_Snapshot_6 : Code := (At (B7 Try.f12)).getD 0 .skip
def Bv (v10 : List Pr2) (v11 : Int) (v12 : Int) (r0 : List (List Chg)) (c0 : Bool) (r1 : List Chg) : Nat := (v11 - v12).toNat + 1
noncomputable def Cy {R : Type}  (NX : ((List Pr2) × (Int) × (Int) × (List (List Chg)) × (Bool) × (List Chg) × Unit) → Option R) (X2 : ((List (List Chg)) × (Bool) × (List Chg) × Unit) → Option R) (v10 : List Pr2) (v11 : Int) (v12 : Int) (r0 : List (List Chg)) (c0 : Bool) (r1 : List Chg) : Option R :=
 bif decide (v12 < v11) then bif decide (0 ≤ v12) then bif decide (v12 < nI v10.length) then bif v12.tmod 20 == 0 then bif decide ((r0.length + c0.toNat + 1) * 24 ≤ 140737488355328) then bif decide (0 ≤ IntKind.i64.wrap (nI ((bif c0 then r0 ++ [r1] else r0).length + true.toNat) - 1)) then bif decide (IntKind.i64.wrap (nI ((bif c0 then r0 ++ [r1] else r0).length + true.toNat) - 1) < nI ((bif c0 then r0 ++ [r1] else r0).length + true.toNat)) then bif decide ((IntKind.i64.wrap (nI ((bif c0 then r0 ++ [r1] else r0).length + true.toNat) - 1)).toNat = (bif c0 then r0 ++ [r1] else r0).length) then bif decide (0 ≤ IntKind.i64.wrap (nI ((bif c0 then r0 ++ [r1] else r0).length + true.toNat) - 1)) then bif decide (IntKind.i64.wrap (nI ((bif c0 then r0 ++ [r1] else r0).length + true.toNat) - 1) < nI ((bif c0 then r0 ++ [r1] else r0).length + true.toNat)) then bif decide ((IntKind.i64.wrap (nI ((bif c0 then r0 ++ [r1] else r0).length + true.toNat) - 1)).toNat = (bif c0 then r0 ++ [r1] else r0).length) then NX (v10, v11, IntKind.i64.wrap (v12 + 1), bif c0 then r0 ++ [r1] else r0, true, [] ++ [((v10.getD v12.toNat (ByteArray.mk #[], ByteArray.mk #[], ())).1, (v10.getD v12.toNat (ByteArray.mk #[], ByteArray.mk #[], ())).2.1, false, ())], ()) else none else none else none else none else none else none else none else bif decide (0 ≤ IntKind.i64.wrap (nI (r0.length + c0.toNat) - 1)) then bif decide (IntKind.i64.wrap (nI (r0.length + c0.toNat) - 1) < nI (r0.length + c0.toNat)) then bif c0 then bif decide ((IntKind.i64.wrap (nI (r0.length + c0.toNat) - 1)).toNat = r0.length) then bif decide ((r1.length + [((v10.getD v12.toNat (ByteArray.mk #[], ByteArray.mk #[], ())).1, (v10.getD v12.toNat (ByteArray.mk #[], ByteArray.mk #[], ())).2.1, false, ())].length) * 40 ≤ 140737488355328) then bif decide (0 ≤ IntKind.i64.wrap (nI (r0.length + c0.toNat) - 1)) then bif decide (IntKind.i64.wrap (nI (r0.length + c0.toNat) - 1) < nI (r0.length + c0.toNat)) then bif c0 then bif decide ((IntKind.i64.wrap (nI (r0.length + c0.toNat) - 1)).toNat = r0.length) then NX (v10, v11, IntKind.i64.wrap (v12 + 1), r0, c0, r1 ++ [((v10.getD v12.toNat (ByteArray.mk #[], ByteArray.mk #[], ())).1, (v10.getD v12.toNat (ByteArray.mk #[], ByteArray.mk #[], ())).2.1, false, ())], ()) else none else none else none else none else none else none else none else none else none else none else none else X2 (r0, c0, r1, ())
noncomputable def Ay : Nat → (List Pr2) → (Int) → (Int) → (List (List Chg)) → (Bool) → (List Chg) →  Option ((List (List Chg)) × (Bool) × (List Chg) × Unit)
 | 0, _, _, _, _, _, _ => none
 | m + 1, v10, v11, v12, r0, c0, r1 => Cy  (fun d => Ay m d.1 d.2.1 d.2.2.1 d.2.2.2.1 d.2.2.2.2.1 d.2.2.2.2.2.1) (fun d => some (d)) v10 v11 v12 r0 c0 r1
noncomputable def Gr (a0 : Stt) : Option ((((List (List Chg)) × Unit) × (Unit))) :=
 bif !B0 a0 then some (([], ()), ()) else ((fun d => Ay (Bv d.1 d.2.1 d.2.2.1 d.2.2.2.1 d.2.2.2.2.1 d.2.2.2.2.2.1) d.1 d.2.1 d.2.2.1 d.2.2.2.1 d.2.2.2.2.1 d.2.2.2.2.2.1) (a0.1, nI (List.length a0.1), 0, [], false, [], ())).bind fun val => some ((bif val.2.1 then val.1 ++ [val.2.2.1] else val.1, ()), ())
theorem Q7 (a0 : Stt) : Gr a0 = some (((Cn a0), ()), (())) := by
 unfold Gr Cn Cx
 show (bif !Af a0 then _ else _) = _
 cases hv : Af a0 with
 | false => rfl
 | true =>
  have hl := Cb hv
  have hL := Fd (xs := a0.1) zP i8 D6 (g := fun m i s => Ay m a0.1 (nI a0.1.length) i s.1 s.2.1 s.2.2) (ok := fun s => (s.1, s.2.1, s.2.2, ())) (fun m i s hi hI => by
   show Ay (m + 1) a0.1 (nI a0.1.length) i s.1 s.2.1 s.2.2 = _
   obtain ⟨r0, c0, r1⟩ := s
   obtain ⟨h1, h2, h3, h4⟩ := hI
   simp only at h2 h3 h4 ⊢
   simp only [Ay, Cy]
   rw [Zp hi, L9, wI (show i < 4611686018427387904 by omega), Int.toNat_natCast, Agw]
   unfold D6
   cases hc : (i % 20 == 0)
   ·have hp : 0 < i := Nat.pos_of_ne_zero fun q => by subst q; cases hc
    have hc0 := h3 hp
    subst hc0
    have e1 := w6 r0.length (by omega)
    have e2 : decide ((r0.length : Int) < nI (r0.length + 1)) = true := Zp (Nat.lt_succ_self _)
    have e3 : decide ((r1.length + 1) * 40 ≤ 140737488355328) = true := decide_eq_true (by omega)
    simp only [Bool.toNat_true, List.length_singleton, cond_true, cond_false, e1, e2, e3, L9, Int.toNat_natCast, decide_true]
    rfl
   ·have hL : List.length (bif c0 then r0 ++ [r1] else r0) ≤ i + 1 := by cases c0 <;> simp <;> omega
    have e1 := w6 (List.length (bif c0 then r0 ++ [r1] else r0)) (by omega)
    have e2 : decide (((List.length (bif c0 then r0 ++ [r1] else r0) : Nat) : Int) < nI (List.length (bif c0 then r0 ++ [r1] else r0) + 1)) = true := Zp (Nat.lt_succ_self _)
    have e3 : decide ((r0.length + Bool.toNat c0 + 1) * 24 ≤ 140737488355328) = true := decide_eq_true (by cases c0 <;> simp <;> omega)
    simp only [Bool.toNat_true, cond_true, e1, e2, e3, L9, Int.toNat_natCast, decide_true]
    rfl) (fun i s hi hI => hI.step (by omega) _) (fun m s hI => by
   show Ay (m + 1) a0.1 (nI a0.1.length) (a0.1.length : Int) s.1 s.2.1 s.2.2 = _
   simp only [Ay, Cy]
   rw [Q1]
   rfl) (Bv a0.1 (nI a0.1.length) 0 [] false []) 0 ([], false, []) (by omega) (by simp [Bv, nI]) ⟨by omega, by simp, fun q => by omega, by simp⟩
  have hL' : Ay (Bv a0.1 (nI a0.1.length) 0 [] false []) a0.1 (nI a0.1.length) 0 [] false [] = _ := hL
  show (Ay (Bv a0.1 (nI a0.1.length) 0 [] false []) a0.1 (nI a0.1.length) 0 [] false []).bind _ = _
  rw [hL']
  rfl
noncomputable def H8 {R : Type} (k : Kt R) := (Nc (pa_impl_Snapshot 6) (.exit 0) 2 k)
noncomputable def Lc {R : Type} : Lt R pa_impl_Snapshot := (Hb (pat := pa_impl_Snapshot) 6 (fun d k => (Ay (Bv d.1 d.2.1 d.2.2.1 d.2.2.2.1 d.2.2.2.2.1 d.2.2.2.2.2.1) d.1 d.2.1 d.2.2.1 d.2.2.2.1 d.2.2.2.2.1 d.2.2.2.2.2.1).bind (H8 k)) O6)
theorem J0 : Az Try.prog ta_impl_Snapshot := Dz ⟨D1, trivial⟩
theorem On {R : Type} : Bb Try.prog R 43 0 pa_impl_Snapshot Lc co_impl_Snapshot_6 :=
 Ec (cfg := ⟨ta_impl_Snapshot, 0, 43, pa_impl_Snapshot⟩) 6 [] (fun NX X (d : (List Pr2) × (Int) × (Int) × (List (List Chg)) × (Bool) × (List Chg) × Unit) => Cy  NX X d.1 d.2.1 d.2.2.1 d.2.2.2.1 d.2.2.2.2.1 d.2.2.2.2.2.1) (fun m d => Ay m d.1 d.2.1 d.2.2.1 d.2.2.2.1 d.2.2.2.2.1 d.2.2.2.2.2.1) (fun d => Bv d.1 d.2.1 d.2.2.1 d.2.2.2.1 d.2.2.2.2.1 d.2.2.2.2.2.1) H8 J0 trivial (fun f NX (d : (List Pr2) × (Int) × (Int) × (List (List Chg)) × (Bool) × (List Chg) × Unit) => by unfold Cy; simp only [A2, A9, Au, Option.bind_assoc, Option.bind_none, Option.bind_some]) (fun _ _ _ => by kernel_rfl)
theorem J1 : Fr Try.prog 12 sd_impl_Snapshot :=
 Dl (pat := pa_impl_Snapshot) [co_impl_Snapshot_6] Lc J0 ⟨On, trivial⟩ Try.func12 (de := fun x => Gr x.1) (fun x r h => (Q7 x.1).trans h) fun _ => by kernel_rfl
def Df (b : List Chg) : Bool := Av b
def Oo : Sig := ⟨[.rd (.sl Cs)], [none], [.rd .bool], [none]⟩
noncomputable def sd_impl_ValidBatch : SD := ⟨Oo, fun x => some (((Df x.1), ()), (()))⟩
noncomputable def ta_impl_ValidBatch : Tb := tb [(83, sd_impl_in), (111, sd_impl_goodKey)]
def pa_impl_ValidBatch : Nat → Pat × (Nat → Pat) := Jx [(5, ⟨[.sl 9 0 Cs], [(9, .lf (.d (.sl Cs))), (10, .lf (.d tI)), (11, .lf (.d tI))], []⟩, [(2, p0), (1, ⟨[], [(2, .lf (.d .bool))], []⟩)])]
noncomputable def co_impl_ValidBatch_5 : Code := (At (B7 Try.f66)).getD 0 .skip
def Ce (v9 : List Chg) (v10 : Int) (v11 : Int) : Nat := (v10 - v11).toNat + 1
noncomputable def Cf {R : Type}  (NX : ((List Chg) × (Int) × (Int) × Unit) → Option R) (X2 : (Unit) → Option R) (X1 : ((Bool) × Unit) → Option R) (v9 : List Chg) (v10 : Int) (v11 : Int) : Option R :=
 bif decide (v11 < v10) then bif decide (0 ≤ v11) then bif decide (v11 < nI v9.length) then bif !F6 (v9.getD v11.toNat (ByteArray.mk #[], ByteArray.mk #[], false, ())).1 then X1 (false, ()) else bif decide (nI (ByteArray.size (v9.getD v11.toNat (ByteArray.mk #[], ByteArray.mk #[], false, ())).2.1) > 100) then X1 (false, ()) else bif (v9.getD v11.toNat (ByteArray.mk #[], ByteArray.mk #[], false, ())).2.2.1 then bif !ByteArray.toList (v9.getD v11.toNat (ByteArray.mk #[], ByteArray.mk #[], false, ())).2.1 == (ByteArray.mk #[]).toList then X1 (false, ()) else NX (v9, v10, IntKind.i64.wrap (v11 + 1), ()) else NX (v9, v10, IntKind.i64.wrap (v11 + 1), ()) else none else none else X2 PUnit.unit
noncomputable def A0 : Nat → (List Chg) → (Int) → (Int) →  Option ((Unit) ⊕ ((Bool) × Unit))
 | 0, _, _, _ => none
 | m + 1, v9, v10, v11 => Cf  (fun d => A0 m d.1 d.2.1 d.2.2.1) (fun d => some (.inl (d))) (fun d => some (.inr (d))) v9 v10 v11
noncomputable def Ff (a0 : List Chg) : Option ((((Bool) × Unit) × (Unit))) :=
 bif !Gq (nI a0.length) 1 20 then some ((false, ()), ()) else ((fun d => A0 (Ce d.1 d.2.1 d.2.2.1) d.1 d.2.1 d.2.2.1) (a0, nI a0.length, 0, ())).bind fun val => Eb (fun d => some ((true, ()), ())) (fun d => some (d, ())) val
theorem Oq (a0 : List Chg) : Ff a0 = some (((Df a0), ()), (())) := by
 unfold Ff Df Av
 have tl : ByteArray.toList (ByteArray.mk #[]) = [] := by decide +kernel
 show (bif !M8 (a0.length : Int) 1 20 then _ else _) = _
 cases hin : M8 (a0.length : Int) 1 20 with
 | false => rfl
 | true =>
  have hlen : a0.length ≤ 20 := by have := (Mc hin).2; omega
  have hL := Ma (n := a0.length) (fun i => F3 (a0.getD i zC)) (g := fun m i => A0 m a0 (nI a0.length) i) (ok := .inl ()) (bad := .inr (false, ())) (fun m i hi => by
   show A0 (m + 1) a0 (nI a0.length) i = _
   simp only [A0, Cf]
   rw [tl, Zp hi, L9, wI (show i < 4611686018427387904 by omega), Int.toNat_natCast]
   have g1 : decide (nI (ByteArray.size (List.getD a0 i (ByteArray.mk #[], ByteArray.mk #[], false, ())).2.1) > 100) = !decide ((a0.getD i zC).2.1.size ≤ 100) := Xg _ 100
   rw [g1]
   show (bif !Fm (a0.getD i zC).1 then _ else (bif _ then _ else (bif (a0.getD i zC).2.2.1 then (bif !((a0.getD i zC).2.1.toList == []) then _ else _) else _))) = _
   unfold F3
   cases Fm (a0.getD i zC).1 <;> cases decide ((a0.getD i zC).2.1.size ≤ 100) <;> cases (a0.getD i zC).2.2.1 <;> cases ((a0.getD i zC).2.1.toList == []) <;> rfl) (fun m => by
   show A0 (m + 1) a0 (nI a0.length) (a0.length : Int) = _
   simp only [A0, Cf]
   rw [Q1]
   rfl) (Ce a0 (nI a0.length) 0) 0 (by omega) (by simp [Ce, nI])
  refine bi_ hL ?_
  rw [Nat.sub_zero]
  cases (List.range' 0 a0.length).all (fun i => F3 (a0.getD i zC)) <;> rfl
noncomputable def G4 {R : Type} (k : Kt R) := (Eb (Nc (pa_impl_ValidBatch 5) (.exit 0) 2 k) (Nc (pa_impl_ValidBatch 5) .ret 1 k))
noncomputable def Iy {R : Type} : Lt R pa_impl_ValidBatch := (Hb (pat := pa_impl_ValidBatch) 5 (fun d k => (A0 (Ce d.1 d.2.1 d.2.2.1) d.1 d.2.1 d.2.2.1).bind (G4 k)) O6)
theorem H9 : Az Try.prog ta_impl_ValidBatch := Dz ⟨K4, Lb, trivial⟩
theorem Mi {R : Type} : Bb Try.prog R 35 0 pa_impl_ValidBatch Iy co_impl_ValidBatch_5 :=
 Ec (cfg := ⟨ta_impl_ValidBatch, 0, 35, pa_impl_ValidBatch⟩) 5 [] (fun NX X d => Cf  NX (fun e => X (.inl (e))) (fun e => X (.inr (e))) d.1 d.2.1 d.2.2.1) (fun m d => A0 m d.1 d.2.1 d.2.2.1) (fun d => Ce d.1 d.2.1 d.2.2.1) G4 H9 trivial (fun f NX d => by unfold Cf; simp only [A2, A9, Au, Option.bind_assoc, Option.bind_none, Option.bind_some]) (fun _ _ _ => by kernel_rfl)
theorem Ia : Fr Try.prog 66 sd_impl_ValidBatch :=
 Dl (pat := pa_impl_ValidBatch) [co_impl_ValidBatch_5] Iy H9 ⟨Mi, trivial⟩ Try.func66 (de := fun x => Ff x.1) (fun x r h => (Oq x.1).trans h) fun _ => by kernel_rfl
def Q8 (v n : Int) : Option ByteArray := if 0 ≤ n ∧ n ≤ 1000 then some (L8 v n.toNat) else none
def F7 (v0 v6 : Int) (r0 : List Int) : Nat := v6.toNat + 2
def y6 : Sig := ⟨[.rd tI, .rd tI], [none, none], [.rd .str], [none]⟩
noncomputable def sd_impl_be : SD := ⟨y6, fun x => (Q8 x.1 x.2.1).bind fun r => some ((r, ()), (()))⟩
noncomputable def ta_impl_be : Tb := tb []
def pa_impl_be : Nat → Pat × (Nat → Pat) := Jx [(4, ⟨[.row 5 0 5 (.int .u8)], [(0, .lf (.d tI)), (5, .lf (.row 0)), (6, .lf (.d tI))], [.row 5 (.int .u8)]⟩, [(2, ⟨[.row 5 0 5 (.int .u8)], [(5, .lf (.row 0))], [.row 5 (.int .u8)]⟩)])]
noncomputable def co_impl_be_4 : Code := (At (B7 Try.f68)).getD 0 .skip
noncomputable def F8 {R : Type}  (NX : ((Int) × (Int) × (List Int) × Unit) → Option R) (X2 : ((List Int) × Unit) → Option R) (v0 : Int) (v6 : Int) (r0 : List Int) : Option R :=
 bif decide (v6 ≥ 0) then bif decide (0 ≤ v6) then bif decide (v6 < nI r0.length) then bif decide (v6.toNat < r0.length) then NX (v0.fdiv (2 ^ min (Int.toNat 8) 64), IntKind.i64.wrap (v6 - 1), r0.set v6.toNat (IntKind.u8.wrap v0), ()) else none else none else none else X2 (r0, ())
noncomputable def D2 : Nat → (Int) → (Int) → (List Int) →  Option ((List Int) × Unit)
 | 0, _, _, _ => none
 | m + 1, v0, v6, r0 => F8  (fun d => D2 m d.1 d.2.1 d.2.2.1) (fun d => some (d)) v0 v6 r0
noncomputable def Ot (a0 : Int) (a1 : Int) : Option ((((ByteArray) × Unit) × (Unit))) :=
 bif decide (a1 = a1) then bif decide (0 ≤ a1) then bif decide (a1.toNat * 1 ≤ 140737488355328) then ((fun d => D2 (F7 d.1 d.2.1 d.2.2.1) d.1 d.2.1 d.2.2.1) (a0, IntKind.i64.wrap (a1 - 1), List.replicate a1.toNat 0, ())).bind fun val => some ((strOfNums val.1, ()), ()) else none else none else none
theorem Abc : ∀ (k m : Nat) (v : Int) (l t : List Int), l.length = k → k ≤ 1000 → k < m → D2 m v ((k : Int) - 1) (l ++ t) = some (u6 v k ++ t, ())
 | 0, m + 1, v, l, t, hl, hk, hm => by
  obtain rfl : l = [] := List.length_eq_zero_iff.1 hl
  simp only [D2, F8]
  rw [decide_eq_false (by omega)]
  rfl
 | k + 1, m + 1, v, l, t, hl, hk, hm => by
  have e : (((k + 1 : Nat) : Int) - 1) = (k : Int) := by omega
  rw [e]
  simp only [D2, F8]
  have hlen : (l ++ t).length = k + 1 + t.length := by rw [List.length_append, hl]
  rw [decide_eq_true (show (k : Int) ≥ 0 by omega), decide_eq_true (show (k : Int) < nI (l ++ t).length by simp only [nI, hlen]; omega), decide_eq_true (show Int.toNat (k : Int) < (l ++ t).length by rw [hlen]; omega), Ao (by omega) (by omega)]
  simp only [cond_true, Int.toNat_natCast]
  obtain ⟨l', x, rfl⟩ : ∃ l' x, l = l' ++ [x] := ⟨l.dropLast, l.getLast (by intro h; subst h; simp at hl), (List.dropLast_concat_getLast _).symm⟩
  have hl' : l'.length = k := by simpa using hl
  have hs : ((l' ++ [x]) ++ t).set k (IntKind.wrap IntKind.u8 v) = l' ++ (v % 256 :: t) := by
   rw [List.append_assoc, List.set_append_right _ _ (by omega), hl']
   simp only [Nat.sub_self, List.singleton_append, List.set_cons_zero]
   rfl
  rw [hs]
  have := Abc k m (v / 256) l' (v % 256 :: t) hl' (by omega) (by omega)
  have e2 : Int.fdiv v (2 ^ min (Int.toNat 8) 64) = v / 256 := by
   show Int.fdiv v 256 = v / 256
   exact Int.fdiv_eq_ediv_of_nonneg _ (by omega)
  rw [e2, this]
  simp only [u6, List.append_assoc, List.singleton_append]
theorem y7 (a0 : Int) (a1 : Int) r (h : Q8 a0 a1 = some r) : Ot a0 a1 = some ((r, ()), (())) := by
 unfold Q8 at h
 split at h
 ·rename_i hc
  cases h
  obtain ⟨n, rfl⟩ : ∃ n : Nat, a1 = (n : Int) := ⟨a1.toNat, by omega⟩
  unfold Ot
  rw [decide_eq_true rfl, decide_eq_true hc.1, decide_eq_true (show Int.toNat (n : Int) * 1 ≤ 140737488355328 by omega), Ao (by omega) (by omega)]
  have hL := Abc n (F7 a0 ((n : Int) - 1) (List.replicate n 0)) a0 (List.replicate n 0) [] (by simp) (by omega) (by simp only [F7]; omega)
  rw [List.append_nil, List.append_nil] at hL
  exact bi_ hL rfl
 ·cases h
noncomputable def P8 {R : Type} (k : Kt R) := (Nc (pa_impl_be 4) (.exit 0) 2 k)
noncomputable def Xy {R : Type} : Lt R pa_impl_be := (Hb (pat := pa_impl_be) 4 (fun d k => (D2 (F7 d.1 d.2.1 d.2.2.1) d.1 d.2.1 d.2.2.1).bind (P8 k)) O6)
theorem Vc : Az Try.prog ta_impl_be := Dz trivial
theorem Zf {R : Type} : Bb Try.prog R 24 0 pa_impl_be Xy co_impl_be_4 :=
 Ec (cfg := ⟨ta_impl_be, 0, 24, pa_impl_be⟩) 4 [] (fun NX X d => F8  NX X d.1 d.2.1 d.2.2.1) (fun m d => D2 m d.1 d.2.1 d.2.2.1) (fun d => F7 d.1 d.2.1 d.2.2.1) P8 Vc trivial (fun f NX d => by unfold F8; simp only [A2, A9, Au, Option.bind_assoc, Option.bind_none, Option.bind_some]) (fun _ _ _ => by kernel_rfl)
theorem y8 : Fr Try.prog 68 sd_impl_be :=
 Dl (pat := pa_impl_be) [co_impl_be_4] Xy Vc ⟨Zf, trivial⟩ Try.func68 (de := fun x => Ot x.1 x.2.1) (fun x r h => M7 (y7 x.1 x.2.1) h) fun _ => by kernel_rfl
def Ca (b : List Chg) : ByteArray := Ed b
def P9 : Sig := ⟨[.rd (.sl Cs)], [none], [.rd .str], [none]⟩
noncomputable def sd_impl_FormBatch : SD := ⟨P9, fun x => some (((Ca x.1), ()), (()))⟩
noncomputable def F9 : Tb := ⟨tbF [(66, sd_impl_ValidBatch), (68, sd_impl_be)], fun f => if f = 67 then some Try.f67 else none, some (118, 108), some (69, 108, 5), none⟩
def pa_impl_FormBatch : Nat → Pat × (Nat → Pat) := Jx [(6, ⟨[.sl 9 0 Cs, .self 3 0, .boxRow 3 1 5 (.int .u8)], [(3, .lf (.ptr 0 0)), (9, .lf (.d (.sl Cs))), (10, .lf (.d tI)), (11, .lf (.d tI))], [.box 108 [.sp 0, .row 1], .row 5 (.int .u8)]⟩, [(2, ⟨[.self 3 0, .boxRow 3 1 5 (.int .u8)], [(3, .lf (.ptr 0 0))], [.box 108 [.sp 0, .row 1], .row 5 (.int .u8)]⟩)])]
noncomputable def co_impl_FormBatch_6 : Code := (At (B7 Try.f19)).getD 0 .skip
def Cp (v9 : List Chg) (v10 : Int) (v11 : Int) (r1 : List Int) : Nat := (v10 - v11).toNat + 1
noncomputable def Cq {R : Type}  (NX : ((List Chg) × (Int) × (Int) × (List Int) × Unit) → Option R) (X2 : ((List Int) × Unit) → Option R) (v9 : List Chg) (v10 : Int) (v11 : Int) (r1 : List Int) : Option R :=
 bif decide (v11 < v10) then bif decide (0 ≤ v11) then bif decide (v11 < nI v9.length) then bif (v9.getD v11.toNat (ByteArray.mk #[], ByteArray.mk #[], false, ())).2.2.1 then bif decide ((ByteArray.mk #[1] ++ L8 (nI (ByteArray.size (v9.getD v11.toNat (ByteArray.mk #[], ByteArray.mk #[], false, ())).1)) (Int.toNat 1)).size + ByteArray.size (v9.getD v11.toNat (ByteArray.mk #[], ByteArray.mk #[], false, ())).1 ≤ 9223372036854775807) then bif decide (r1.length + (ByteArray.mk #[1] ++ L8 (nI (ByteArray.size (v9.getD v11.toNat (ByteArray.mk #[], ByteArray.mk #[], false, ())).1)) (Int.toNat 1) ++ (v9.getD v11.toNat (ByteArray.mk #[], ByteArray.mk #[], false, ())).1).size ≤ 140737488355328) then NX (v9, v10, IntKind.i64.wrap (v11 + 1), r1 ++ Aj (ByteArray.mk #[1] ++ L8 (nI (ByteArray.size (v9.getD v11.toNat (ByteArray.mk #[], ByteArray.mk #[], false, ())).1)) (Int.toNat 1) ++ (v9.getD v11.toNat (ByteArray.mk #[], ByteArray.mk #[], false, ())).1), ()) else none else none else bif decide ((ByteArray.mk #[0] ++ L8 (nI (ByteArray.size (v9.getD v11.toNat (ByteArray.mk #[], ByteArray.mk #[], false, ())).1)) (Int.toNat 1)).size + ByteArray.size (v9.getD v11.toNat (ByteArray.mk #[], ByteArray.mk #[], false, ())).1 ≤ 9223372036854775807) then bif decide ((ByteArray.mk #[0] ++ L8 (nI (ByteArray.size (v9.getD v11.toNat (ByteArray.mk #[], ByteArray.mk #[], false, ())).1)) (Int.toNat 1) ++ (v9.getD v11.toNat (ByteArray.mk #[], ByteArray.mk #[], false, ())).1).size + (L8 (nI (ByteArray.size (v9.getD v11.toNat (ByteArray.mk #[], ByteArray.mk #[], false, ())).2.1)) (Int.toNat 1)).size ≤ 9223372036854775807) then bif decide ((ByteArray.mk #[0] ++ L8 (nI (ByteArray.size (v9.getD v11.toNat (ByteArray.mk #[], ByteArray.mk #[], false, ())).1)) (Int.toNat 1) ++ (v9.getD v11.toNat (ByteArray.mk #[], ByteArray.mk #[], false, ())).1 ++ L8 (nI (ByteArray.size (v9.getD v11.toNat (ByteArray.mk #[], ByteArray.mk #[], false, ())).2.1)) (Int.toNat 1)).size + ByteArray.size (v9.getD v11.toNat (ByteArray.mk #[], ByteArray.mk #[], false, ())).2.1 ≤ 9223372036854775807) then bif decide (r1.length + (ByteArray.mk #[0] ++ L8 (nI (ByteArray.size (v9.getD v11.toNat (ByteArray.mk #[], ByteArray.mk #[], false, ())).1)) (Int.toNat 1) ++ (v9.getD v11.toNat (ByteArray.mk #[], ByteArray.mk #[], false, ())).1 ++ L8 (nI (ByteArray.size (v9.getD v11.toNat (ByteArray.mk #[], ByteArray.mk #[], false, ())).2.1)) (Int.toNat 1) ++ (v9.getD v11.toNat (ByteArray.mk #[], ByteArray.mk #[], false, ())).2.1).size ≤ 140737488355328) then NX (v9, v10, IntKind.i64.wrap (v11 + 1), r1 ++ Aj (ByteArray.mk #[0] ++ L8 (nI (ByteArray.size (v9.getD v11.toNat (ByteArray.mk #[], ByteArray.mk #[], false, ())).1)) (Int.toNat 1) ++ (v9.getD v11.toNat (ByteArray.mk #[], ByteArray.mk #[], false, ())).1 ++ L8 (nI (ByteArray.size (v9.getD v11.toNat (ByteArray.mk #[], ByteArray.mk #[], false, ())).2.1)) (Int.toNat 1) ++ (v9.getD v11.toNat (ByteArray.mk #[], ByteArray.mk #[], false, ())).2.1), ()) else none else none else none else none else none else none else X2 (r1, ())
noncomputable def Ap : Nat → (List Chg) → (Int) → (Int) → (List Int) →  Option ((List Int) × Unit)
 | 0, _, _, _, _ => none
 | m + 1, v9, v10, v11, r1 => Cq  (fun d => Ap m d.1 d.2.1 d.2.2.1 d.2.2.2.1) (fun d => some (d)) v9 v10 v11 r1
noncomputable def Ga (a0 : List Chg) : Option ((((ByteArray) × Unit) × (Unit))) :=
 bif !Df a0 then some ((ByteArray.mk #[], ()), ()) else ((fun d => Ap (Cp d.1 d.2.1 d.2.2.1 d.2.2.2.1) d.1 d.2.1 d.2.2.1 d.2.2.2.1) (a0, nI a0.length, 0, [], ())).bind fun val => bif Co val.1 then some ((strOfNums val.1, ()), ()) else none
theorem Qa (a0 : List Chg) : Ga a0 = some ((Ca a0, ()), (())) := by
 unfold Ga Ca Ed
 show (bif !Av a0 then _ else _) = _
 cases hv : Av a0 with
 | false => rfl
 | true =>
  obtain ⟨hlen, hok⟩ := Jf hv
  have hL := Aa6 a0.length Xm (fun i r => r ++ Ux (a0.getD i zC)) (g := fun m i r => Ap m a0 (nI a0.length) i r) (ok := fun r => (r, ())) (fun m i r hi hr => by
   show Ap (m + 1) a0 (nI a0.length) i r = _
   simp only [Ap, Cq]
   have hc := hok i hi
   obtain ⟨k1, k2, k3⟩ := Xl hc
   rw [Zp hi, L9, wI (show i < 4611686018427387904 by omega), Int.toNat_natCast]
   show (bif (a0.getD i zC).2.2.1 then (bif decide (ByteArray.size (ByteArray.mk #[1] ++ L8 (nI (ByteArray.size (a0.getD i zC).1)) 1) + ByteArray.size (a0.getD i zC).1 ≤ 9223372036854775807) then (bif decide (List.length r + ByteArray.size (ByteArray.mk #[1] ++ L8 (nI (ByteArray.size (a0.getD i zC).1)) 1 ++ (a0.getD i zC).1) ≤ 140737488355328) then Ap m a0 (nI a0.length) ((i + 1 : Nat) : Int) (r ++ Aj (ByteArray.mk #[1] ++ L8 (nI (ByteArray.size (a0.getD i zC).1)) 1 ++ (a0.getD i zC).1)) else none) else none) else (bif decide (ByteArray.size (ByteArray.mk #[0] ++ L8 (nI (ByteArray.size (a0.getD i zC).1)) 1) + ByteArray.size (a0.getD i zC).1 ≤ 9223372036854775807) then (bif decide (ByteArray.size (ByteArray.mk #[0] ++ L8 (nI (ByteArray.size (a0.getD i zC).1)) 1 ++ (a0.getD i zC).1) + ByteArray.size (L8 (nI (ByteArray.size (a0.getD i zC).2.1)) 1) ≤ 9223372036854775807) then (bif decide (ByteArray.size (ByteArray.mk #[0] ++ L8 (nI (ByteArray.size (a0.getD i zC).1)) 1 ++ (a0.getD i zC).1 ++ L8 (nI (ByteArray.size (a0.getD i zC).2.1)) 1) + ByteArray.size (a0.getD i zC).2.1 ≤ 9223372036854775807) then (bif decide (List.length r + ByteArray.size (ByteArray.mk #[0] ++ L8 (nI (ByteArray.size (a0.getD i zC).1)) 1 ++ (a0.getD i zC).1 ++ L8 (nI (ByteArray.size (a0.getD i zC).2.1)) 1 ++ (a0.getD i zC).2.1) ≤ 140737488355328) then Ap m a0 (nI a0.length) ((i + 1 : Nat) : Int) (r ++ Aj (ByteArray.mk #[0] ++ L8 (nI (ByteArray.size (a0.getD i zC).1)) 1 ++ (a0.getD i zC).1 ++ L8 (nI (ByteArray.size (a0.getD i zC).2.1)) 1 ++ (a0.getD i zC).2.1)) else none) else none) else none) else none)) = Ap m a0 (nI a0.length) ((i + 1 : Nat) : Int) (r ++ Ux (a0.getD i zC))
   have hr1 := hr.1
   generalize a0.getD i zC = c at *
   have o1 : Aj (ByteArray.mk #[1]) = [1] := rfl
   have o0 : Aj (ByteArray.mk #[0]) = [0] := rfl
   have s1 : ByteArray.size (ByteArray.mk #[1]) = 1 := rfl
   have s0 : ByteArray.size (ByteArray.mk #[0]) = 1 := rfl
   simp only [Ab6, h9 _ (show c.1.size < 256 by omega), h9 _ (show c.2.1.size < 256 by omega), o1, o0, ByteArray.size_append, Ad0, s1, s0]
   rw [decide_eq_true (show 1 + 1 + c.1.size ≤ 9223372036854775807 by omega), decide_eq_true (show r.length + (1 + 1 + c.1.size) ≤ 140737488355328 by omega), decide_eq_true (show 1 + 1 + c.1.size + 1 ≤ 9223372036854775807 by omega), decide_eq_true (show 1 + 1 + c.1.size + 1 + c.2.1.size ≤ 9223372036854775807 by omega), decide_eq_true (show r.length + (1 + 1 + c.1.size + 1 + c.2.1.size) ≤ 140737488355328 by omega)]
   unfold Ux
   cases c.2.2.1 <;> rfl) (fun m r _ => by
   show Ap (m + 1) a0 (nI a0.length) (a0.length : Int) r = _
   simp only [Ap, Cq]
   rw [Q1]
   rfl) (fun i r hi hr => hr.step (hok i hi)) a0.length (Cp a0 (nI a0.length) 0 []) 0 [] (by omega) (by simp [Cp, nI]) ⟨by simp, rfl⟩
  have hB := i6 hok a0.length 0 [] (by omega) ⟨by simp, rfl⟩
  rw [h8 Ux zC a0 a0.length 0 [] (by omega), List.nil_append, List.drop_zero] at hL hB
  refine bi_ hL ?_
  show (bif Co (K1 a0) then some ((strOfNums (K1 a0), ()), ()) else none) = _
  have : Co (K1 a0) = true := hB.2
  rw [this]
  rfl
noncomputable def He {R : Type} (k : Kt R) := (Nc (pa_impl_FormBatch 6) (.exit 0) 2 k)
noncomputable def J2 {R : Type} : Lt R pa_impl_FormBatch := (Hb (pat := pa_impl_FormBatch) 6 (fun d k => (Ap (Cp d.1 d.2.1 d.2.2.1 d.2.2.2.1) d.1 d.2.1 d.2.2.1 d.2.2.2.1).bind (He k)) O6)
theorem Iz : Az Try.prog F9 where
 sd := Za (l := [(66, sd_impl_ValidBatch), (68, sd_impl_be)]) ⟨Ia, y8, trivial⟩
 inl := fun f fn h => by
  simp only [F9] at h
  split at h
  ·rename_i e; subst e; cases h; exact ⟨Try.func67, by kernel_rfl, by kernel_rfl⟩
  cases h
 cc := fun f BT h => by cases h; exact ⟨⟨_, Try.func118, by kernel_rfl, by kernel_rfl⟩, Afh⟩
 st := fun f BT e h => by cases h; exact ⟨⟨_, Try.func69, by kernel_rfl, by kernel_rfl⟩, Afi⟩
 srt := fun fs fc BT U e h => by cases h
theorem Nf {R : Type} : Bb Try.prog R 45 0 pa_impl_FormBatch J2 co_impl_FormBatch_6 :=
 Ec (cfg := ⟨F9, 0, 45, pa_impl_FormBatch⟩) 6 [] (fun NX X d => Cq  NX X d.1 d.2.1 d.2.2.1 d.2.2.2.1) (fun m d => Ap m d.1 d.2.1 d.2.2.1 d.2.2.2.1) (fun d => Cp d.1 d.2.1 d.2.2.1 d.2.2.2.1) He Iz trivial (fun f NX d => by unfold Cq; simp only [A2, A9, Au, Option.bind_assoc, Option.bind_none, Option.bind_some]) (fun _ _ _ => by kernel_rfl)
theorem I0 : Fr Try.prog 19 sd_impl_FormBatch :=
 Dl (pat := pa_impl_FormBatch) [co_impl_FormBatch_6] J2 Iz ⟨Nf, trivial⟩ Try.func19 (de := fun x => Ga x.1) (fun x r h => (Qa x.1).trans h) fun _ => by kernel_rfl
def Zg : Sig := ⟨[.rd tI], [none], [.rd tI], [none]⟩
noncomputable def Qb (a0 : Int) : Option ((((Int) × Unit) × (Unit))) :=
 some ((IntKind.i64.wrap (IntKind.i64.wrap (64 - a0) - 8), ()), ())
noncomputable def sd_impl_room : SD := ⟨Zg, fun x => Qb x.1⟩
theorem Zh : Fr Try.prog 84 sd_impl_room :=
 Dl (pat := P4) [] O6 (Dz (l := []) trivial) trivial Try.func84 (de := fun x => Qb x.1) (fun x r h => h) fun _ => by kernel_rfl
def D3 (s : ByteArray) (w : Int) : Option Int := if s.size ≤ 1099511627776 then some (C8 s.size w) else none
def V7 : Sig := ⟨[.rd .str, .rd tI], [none, none], [.rd tI], [none]⟩
noncomputable def sd_impl_Pages : SD := ⟨V7, fun x => (D3 x.1 x.2.1).bind fun r => some ((r, ()), (()))⟩
noncomputable def Jh (a0 : ByteArray) (a1 : Int) : Option ((((Int) × Unit) × (Unit))) :=
 bif !Gq a1 1 8 then some ((0, ()), ()) else bif !decide (IntKind.i64.wrap (IntKind.i64.wrap (64 - a1) - 8) = 0) then some ((if IntKind.i64.wrap ((IntKind.i64.wrap (IntKind.i64.wrap (nI a0.size + IntKind.i64.wrap (IntKind.i64.wrap (64 - a1) - 8)) - 1)).tdiv (IntKind.i64.wrap (IntKind.i64.wrap (64 - a1) - 8))) > 1 then IntKind.i64.wrap ((IntKind.i64.wrap (IntKind.i64.wrap (nI a0.size + IntKind.i64.wrap (IntKind.i64.wrap (64 - a1) - 8)) - 1)).tdiv (IntKind.i64.wrap (IntKind.i64.wrap (64 - a1) - 8))) else 1, ()), ()) else none
theorem V8 (a0 : ByteArray) (a1 : Int) r (h : D3 a0 a1 = some r) : Jh a0 a1 = some ((r, ()), (())) := by
 unfold D3 at h
 split at h
 ·rename_i hc
  cases h
  unfold Jh C8
  show (bif !M8 a1 1 8 then _ else _) = _
  cases hw : M8 a1 1 8 with
  | false => rfl
  | true =>
   have k1 := (Mc hw).1
   have k2 := (Mc hw).2
   have hq : 0 ≤ ((a0.size : Int) + (56 - a1) - 1) / (56 - a1) := Int.ediv_nonneg (by omega) (by omega)
   have hq2 : ((a0.size : Int) + (56 - a1) - 1) / (56 - a1) ≤ (a0.size : Int) + (56 - a1) - 1 := Int.ediv_le_self _ (by omega)
   rw [Ao (n := 64 - a1) (by omega) (by omega), Ao (n := 64 - a1 - 8) (by omega) (by omega), show 64 - a1 - 8 = 56 - a1 by omega]
   simp only [nI]
   rw [Ao (n := (a0.size : Int) + (56 - a1)) (by omega) (by omega), Ao (n := (a0.size : Int) + (56 - a1) - 1) (by omega) (by omega), Int.tdiv_eq_ediv_of_nonneg (by omega), Ao (n := ((a0.size : Int) + (56 - a1) - 1) / (56 - a1)) (by omega) (by omega), decide_eq_false (show ¬ (56 - a1 = 0) by omega)]
   rfl
 ·cases h
theorem Nr : Fr Try.prog 42 sd_impl_Pages :=
 Dl (pat := P4) [] O6 (Dz (l := [(83, sd_impl_in), (84, sd_impl_room)]) ⟨K4, Zh, trivial⟩) trivial Try.func42 (de := fun x => Jh x.1 x.2.1) (fun x r h => M7 (V8 x.1 x.2.1) h) fun _ => by kernel_rfl
def Vd : Sig := ⟨[.rd (.sl (.int .u8))], [none], [.bx 154 (.pair (.sl (.int .u8)) (.pair tI .unit))], [none]⟩
noncomputable def Gb (a0 : List Int) : Option (((((List Int) × Int × Unit) × Unit) × (Unit))) :=
 bif decide (nI a0.length > 2000) then bif decide (2000 ≤ nI a0.length) then some (((List.drop (Int.toNat 0) (List.take (Int.toNat 2000) a0), 0, ()), ()), ()) else none else some (((a0, 0, ()), ()), ())
theorem Mj : ∃ f, f = @Gb := ⟨_, rfl⟩
noncomputable def m_spec_l1Open := Classical.choose Mj
theorem Mk : @m_spec_l1Open = @Gb := Classical.choose_spec Mj
noncomputable def sd_spec_l1Open : SD := ⟨Vd, fun x => m_spec_l1Open x.1⟩
theorem Afp (b : List Int) (h : Nq (.sl (.int .u8)) b) : Ah (m_spec_l1Open b) fun r => Kc 0 r.1.1 := by
 obtain ⟨_, h⟩ := h
 have hb : ∀ l : List Int, (∀ x ∈ l, x ∈ b) → l.length ≤ 2000 → rdB l = true := fun l h1 h2 => by
  unfold rdB
  rw [decide_eq_true h2, Bool.true_and, List.all_eq_true]
  intro x hx
  obtain ⟨i, hi, e⟩ := List.getElem_of_mem (h1 x hx)
  have q := h i x (by rw [← e]; exact List.getElem?_eq_getElem hi)
  have q : (Lit.int .u8 x).wf = true := q
  simp only [Lit.wf, Bool.and_eq_true, decide_eq_true_eq] at q
  simp only [Bool.and_eq_true, decide_eq_true_eq]
  have q1 : (0 : Int) ≤ x := q.1
  have q2 : x ≤ 255 := q.2
  omega
 rw [Mk]
 unfold Gb
 refine Ah.cond (fun c => ?_) fun c => ?_
 ·simp only [decide_eq_true_eq, nI] at c
  refine Ah.go (decide_eq_true (by simp only [nI]; omega)) (Ah.some ⟨hb _ (fun x hx => List.mem_of_mem_take (List.mem_of_mem_drop hx)) ?_, Int.le_refl 0, Int.le_refl 0⟩)
  simp only [List.drop_zero, List.length_take, Int.toNat_zero]
  omega
 ·simp only [decide_eq_false_iff_not, nI] at c
  exact Ah.some ⟨hb _ (fun x hx => hx) (by show b.length ≤ 2000; omega), Int.le_refl 0, Int.le_refl 0⟩
theorem Ve : Fr Try.prog 62 sd_spec_l1Open :=
 Dl (pat := P4) [] O6 (Dz (l := []) trivial) trivial Try.func62 (de := fun x => Gb x.1) (fun x r h => by have q : m_spec_l1Open x.1 = some r := h; rw [Mk] at q; exact q) fun _ => by kernel_rfl
def Qc (b : List Int) (p : Int) : Int := IntKind.i64.wrap (IntKind.i64.wrap (IntKind.i64.wrap (IntKind.i64.wrap (IntKind.i64.wrap (b.getD (p.tmod (nI b.length)).toNat 0) * 131) + IntKind.i64.wrap (IntKind.i64.wrap (b.getD ((IntKind.i64.wrap (IntKind.i64.wrap (p * 7) + 3)).tmod (nI b.length)).toNat 0) * 1117)) + IntKind.i64.wrap (p * 29)) + IntKind.i64.wrap (IntKind.i64.wrap (p.tdiv (nI b.length)) * 53))
def Vf (b : List Int) (p n : Int) : Int := bif decide (n < 1) then 0 else bif nI b.length == 0 then 0 else bif decide (p < nI b.length) then (IntKind.i64.wrap (b.getD p.toNat 0)).tmod n else
 (IntKind.i64.wrap (nI (BitVec.ofInt 64 (Qc b p) ^^^ BitVec.ofInt 64 (IntKind.i64.wrap ((Qc b p).tdiv 64))).toNat)).tmod n
theorem Abd : ∃ f : Rd → Int → Option (Int × Rd), f = fun r n => if rdB r.1 = true ∧ 0 ≤ r.2.1 ∧ r.2.1 < 1099511627776 then some (Vf r.1 r.2.1 n, (r.1, r.2.1 + 1, ())) else none := ⟨_, rfl⟩
noncomputable def Aa (r : Rd) (n : Int) : Option (Int × Rd) := Classical.choose Abd r n
theorem Abe (r : Rd) (n : Int) : Aa r n = if rdB r.1 = true ∧ 0 ≤ r.2.1 ∧ r.2.1 < 1099511627776 then some (Vf r.1 r.2.1 n, (r.1, r.2.1 + 1, ())) else none := by
 unfold Aa
 rw [Classical.choose_spec Abd]
def Ou : Sig := ⟨[.bx 154 (.pair (.sl (.int .u8)) (.pair tI .unit)), .rd tI], [none, none], [.rd tI], [none]⟩
noncomputable def sd_spec_l1Rd__pick : SD := ⟨Ou, fun x => (Aa x.1 x.2.1).bind fun r => some ((r.1, ()), (r.2, ()))⟩
noncomputable def Fg (a0 : (List Int) × Int × Unit) (a1 : Int) : Option ((((Int) × Unit) × (((List Int) × Int × Unit) × Unit))) :=
 bif decide (a1 < 1) then some ((0, ()), (a0.1, IntKind.i64.wrap (a0.2.1 + 1), ()), ()) else bif nI (List.length a0.1) == 0 then some ((0, ()), (a0.1, IntKind.i64.wrap (a0.2.1 + 1), ()), ()) else bif decide (IntKind.i64.wrap (IntKind.i64.wrap (a0.2.1 + 1) - 1) < nI (List.length a0.1)) then bif decide (0 ≤ IntKind.i64.wrap (IntKind.i64.wrap (a0.2.1 + 1) - 1)) then bif decide (IntKind.i64.wrap (IntKind.i64.wrap (a0.2.1 + 1) - 1) < nI (List.length a0.1)) then bif !decide (a1 = 0) then some (((IntKind.i64.wrap (List.getD a0.1 (IntKind.i64.wrap (IntKind.i64.wrap (a0.2.1 + 1) - 1)).toNat 0)).tmod a1, ()), (a0.1, IntKind.i64.wrap (a0.2.1 + 1), ()), ()) else none else none else none else bif !decide (nI (List.length a0.1) = 0) then bif decide (0 ≤ (IntKind.i64.wrap (IntKind.i64.wrap (a0.2.1 + 1) - 1)).tmod (nI (List.length a0.1))) then bif decide ((IntKind.i64.wrap (IntKind.i64.wrap (a0.2.1 + 1) - 1)).tmod (nI (List.length a0.1)) < nI (List.length a0.1)) then bif !decide (nI (List.length a0.1) = 0) then bif decide (0 ≤ (IntKind.i64.wrap (IntKind.i64.wrap (IntKind.i64.wrap (IntKind.i64.wrap (a0.2.1 + 1) - 1) * 7) + 3)).tmod (nI (List.length a0.1))) then bif decide ((IntKind.i64.wrap (IntKind.i64.wrap (IntKind.i64.wrap (IntKind.i64.wrap (a0.2.1 + 1) - 1) * 7) + 3)).tmod (nI (List.length a0.1)) < nI (List.length a0.1)) then bif !decide (nI (List.length a0.1) = 0) then bif !decide (a1 = 0) then some (((IntKind.i64.wrap (nI (BitVec.ofInt 64 (IntKind.i64.wrap (IntKind.i64.wrap (IntKind.i64.wrap (IntKind.i64.wrap (IntKind.i64.wrap (List.getD a0.1 ((IntKind.i64.wrap (IntKind.i64.wrap (a0.2.1 + 1) - 1)).tmod (nI (List.length a0.1))).toNat 0) * 131) + IntKind.i64.wrap (IntKind.i64.wrap (List.getD a0.1 ((IntKind.i64.wrap (IntKind.i64.wrap (IntKind.i64.wrap (IntKind.i64.wrap (a0.2.1 + 1) - 1) * 7) + 3)).tmod (nI (List.length a0.1))).toNat 0) * 1117)) + IntKind.i64.wrap (IntKind.i64.wrap (IntKind.i64.wrap (a0.2.1 + 1) - 1) * 29)) + IntKind.i64.wrap (IntKind.i64.wrap ((IntKind.i64.wrap (IntKind.i64.wrap (a0.2.1 + 1) - 1)).tdiv (nI (List.length a0.1))) * 53))) ^^^ BitVec.ofInt 64 (IntKind.i64.wrap ((IntKind.i64.wrap (IntKind.i64.wrap (IntKind.i64.wrap (IntKind.i64.wrap (IntKind.i64.wrap (List.getD a0.1 ((IntKind.i64.wrap (IntKind.i64.wrap (a0.2.1 + 1) - 1)).tmod (nI (List.length a0.1))).toNat 0) * 131) + IntKind.i64.wrap (IntKind.i64.wrap (List.getD a0.1 ((IntKind.i64.wrap (IntKind.i64.wrap (IntKind.i64.wrap (IntKind.i64.wrap (a0.2.1 + 1) - 1) * 7) + 3)).tmod (nI (List.length a0.1))).toNat 0) * 1117)) + IntKind.i64.wrap (IntKind.i64.wrap (IntKind.i64.wrap (a0.2.1 + 1) - 1) * 29)) + IntKind.i64.wrap (IntKind.i64.wrap ((IntKind.i64.wrap (IntKind.i64.wrap (a0.2.1 + 1) - 1)).tdiv (nI (List.length a0.1))) * 53))).tdiv 64))).toNat)).tmod a1, ()), (a0.1, IntKind.i64.wrap (a0.2.1 + 1), ()), ()) else none else none else none else none else none else none else none else none
theorem Aeh {b : List Int} {p : Int} (hb : rdB b = true) (h0 : 0 ≤ p) (h1 : p < 1099511627776) (hn : 0 < b.length) : 0 ≤ Qc b p ∧ Qc b p < 1125899906842624 := by
 have c1 := x5 hb (p.tmod (nI b.length)).toNat
 have c2 := x5 hb ((IntKind.i64.wrap (IntKind.i64.wrap (p * 7) + 3)).tmod (nI b.length)).toNat
 have c3 : 0 ≤ p.tdiv (nI b.length) ∧ p.tdiv (nI b.length) ≤ p := by
  rw [Int.tdiv_eq_ediv_of_nonneg h0]
  exact ⟨Int.ediv_nonneg h0 (by simp [nI]), Int.ediv_le_self _ h0⟩
 unfold Qc
 generalize b.getD (p.tmod (nI b.length)).toNat 0 = x at *
 generalize b.getD ((IntKind.i64.wrap (IntKind.i64.wrap (p * 7) + 3)).tmod (nI b.length)).toNat 0 = y at *
 generalize p.tdiv (nI b.length) = z at *
 rw [Ao (n := x) (by omega) (by omega), Ao (n := y) (by omega) (by omega), Ao (n := z) (by omega) (by omega), Ao (n := y * 1117) (by omega) (by omega), Ao (n := x * 131) (by omega) (by omega), Ao (n := p * 29) (by omega) (by omega), Ao (n := z * 53) (by omega) (by omega), Ao (n := x * 131 + y * 1117) (by omega) (by omega), Ao (n := x * 131 + y * 1117 + p * 29) (by omega) (by omega), Ao (by omega) (by omega)]
 omega
theorem Aei {b : List Int} {p n : Int} (hb : rdB b = true) (h0 : 0 ≤ p) (h1 : p < 1099511627776) : 0 ≤ Vf b p n ∧ (1 ≤ n → Vf b p n < n) ∧ (n < 1 → Vf b p n = 0) := by
 unfold Vf
 by_cases hn : n < 1
 ·rw [decide_eq_true hn]
  exact ⟨Int.le_refl 0, fun q => by omega, fun _ => rfl⟩
 ·rw [decide_eq_false hn, cond_false]
  refine ⟨?_, fun _ => ?_, fun q => absurd q hn⟩
  all_goals
   by_cases hl : b.length = 0
   ·rw [show (nI b.length == 0) = true by simp [nI, hl]]
    simp only [cond_true]
    omega
   ·rw [show (nI b.length == 0) = false by simp only [nI, beq_eq_false_iff_ne]; omega, cond_false]
    by_cases hp : p < nI b.length
    ·rw [decide_eq_true hp, cond_true]
     have c := x5 hb p.toNat
     rw [Ao (by omega) (by omega)]
     have := Tf (x := b.getD p.toNat 0) (n := n) c.1 (by omega)
     omega
    ·rw [decide_eq_false hp, cond_false]
     obtain ⟨x0, x1⟩ := Aeh hb h0 h1 (by omega)
     have t : 0 ≤ (Qc b p).tdiv 64 ∧ (Qc b p).tdiv 64 ≤ Qc b p := by
      rw [Int.tdiv_eq_ediv_of_nonneg x0]
      omega
     rw [Ao (n := (Qc b p).tdiv 64) (by omega) (by omega)]
     have := Tf (n := n) (Aca x0 (by omega) t.1 (by omega)) (by omega)
     omega
theorem Abf {k : Nat} {r : Rd} (n : Int) (h : Kc k r) (hk : k < 1099511627776) : ∃ v, Aa r n = some (v, (r.1, r.2.1 + 1, ())) ∧ 0 ≤ v ∧ (1 ≤ n → v < n) ∧ (n < 1 → v = 0) ∧ Kc (k + 1) (r.1, r.2.1 + 1, ()) := by
 obtain ⟨h1, h2, h3⟩ := h
 have hn := Aei (n := n) h1 h2 (by omega)
 exact ⟨_, by rw [Abe, if_pos ⟨h1, h2, by omega⟩], hn.1, hn.2.1, hn.2.2, h1, by show 0 ≤ r.2.1 + 1; omega, by show r.2.1 + 1 ≤ ((k + 1 : Nat) : Int); omega⟩
theorem Aw {α : Type} {k : Nat} {r : Rd} {n : Int} {f : (Int × Unit) × Rd × Unit → Option α} {S : α → Prop} (h : Kc k r) (hk : k < 1099511627776) (hn : 1 ≤ n) (q : ∀ v r', 0 ≤ v → v < n → Kc (k + 1) r' → Ah (f ((v, ()), r', ())) S) :
  Ah (((Aa r n).bind fun val => some ((val.1, ()), val.2, ())).bind f) S := by
 obtain ⟨v, e, v0, v1, _, h'⟩ := Abf n h hk
 rw [e]
 exact q v _ v0 (v1 hn) h'
theorem Acg {α : Type} {k : Nat} {r : Rd} {n : Int} {f : (Int × Unit) × Rd × Unit → Option α} {S : α → Prop} (h : Kc k r) (hk : k < 1099511627776) (q : ∀ v r', 0 ≤ v → (1 ≤ n → v < n) → (n < 1 → v = 0) → Kc (k + 1) r' → Ah (f ((v, ()), r', ())) S) :
  Ah (((Aa r n).bind fun val => some ((val.1, ()), val.2, ())).bind f) S := by
 obtain ⟨v, e, v0, v1, v2, h'⟩ := Abf n h hk
 rw [e]
 exact q v _ v0 v1 v2 h'
theorem Ov (a0 : (List Int) × Int × Unit) (a1 : Int) r (h : Aa a0 a1 = some r) : Fg a0 a1 = some ((r.1, ()), (r.2, ())) := by
 rw [Abe] at h
 split at h
 ·rename_i hc
  obtain ⟨hb, h0, h1⟩ := hc
  cases h
  unfold Fg
  have e1 : IntKind.i64.wrap (a0.2.1 + 1) = a0.2.1 + 1 := Ao (by omega) (by omega)
  have e2 : IntKind.i64.wrap (a0.2.1 + 1 - 1) = a0.2.1 := by rw [Ao (by omega) (by omega)]; omega
  simp only [e1, e2]
  unfold Vf
  by_cases hn : a1 < 1
  ·rw [decide_eq_true hn]; rfl
  ·rw [decide_eq_false hn]
   have hn0 : decide (a1 = 0) = false := decide_eq_false (by omega)
   simp only [cond_false]
   by_cases hl : a0.1.length = 0
   ·rw [show (nI a0.1.length == 0) = true by simp [nI, hl]]; rfl
   ·rw [show (nI a0.1.length == 0) = false by simp only [nI, beq_eq_false_iff_ne]; omega]
    have hl0 : decide (nI a0.1.length = 0) = false := decide_eq_false (by simp only [nI]; omega)
    simp only [cond_false]
    by_cases hp : a0.2.1 < nI a0.1.length
    ·rw [decide_eq_true hp, decide_eq_true h0, hn0]; rfl
    ·have t1 := Tf (n := nI a0.1.length) h0 (by simp only [nI]; omega)
     have w7 : IntKind.i64.wrap (IntKind.i64.wrap (a0.2.1 * 7) + 3) = a0.2.1 * 7 + 3 := by rw [Ao (n := a0.2.1 * 7) (by omega) (by omega), Ao (by omega) (by omega)]
     have t2 := Tf (x := a0.2.1 * 7 + 3) (n := nI a0.1.length) (by omega) (by simp only [nI]; omega)
     rw [← w7] at t2
     rw [decide_eq_false hp, hl0, hn0, decide_eq_true t1.1, decide_eq_true t1.2, decide_eq_true t2.1, decide_eq_true t2.2]
     rfl
 ·cases h
theorem Cz : Fr Try.prog 64 sd_spec_l1Rd__pick :=
 Dl (pat := P4) [] O6 (Dz (l := []) trivial) trivial Try.func64 (de := fun x => Fg x.1 x.2.1) (fun x r h => M7 (Ov x.1 x.2.1) h) fun _ => by kernel_rfl
def Ev (v0 : ByteArray) (v1 : Int) (v5 : ByteArray) : Nat := v1.toNat + 1
def Vg : Sig := ⟨[.rd .str, .rd tI], [none, none], [.rd .str], [none]⟩
noncomputable def ta_spec_l1Many : Tb := tb []
def pa_spec_l1Many : Nat → Pat × (Nat → Pat) := Jx [(3, ⟨[], [(0, .lf (.d .str)), (1, .lf (.d tI)), (5, .lf (.d .str))], []⟩, [(2, ⟨[], [(5, .lf (.d .str))], []⟩)])]
noncomputable def co_spec_l1Many_3 : Code := (At (B7 Try.f73)).getD 0 .skip
noncomputable def Ew {R : Type}  (NX : ((ByteArray) × (Int) × (ByteArray) × Unit) → Option R) (X2 : ((ByteArray) × Unit) → Option R) (v0 : ByteArray) (v1 : Int) (v5 : ByteArray) : Option R :=
 bif decide (v1 > 0) then bif v1.tmod 2 == 1 then bif decide (v5.size + v0.size ≤ 9223372036854775807) then bif decide (v0.size + v0.size ≤ 9223372036854775807) then NX (v0 ++ v0, IntKind.i64.wrap (v1.tdiv 2), v5 ++ v0, ()) else none else none else bif decide (v0.size + v0.size ≤ 9223372036854775807) then NX (v0 ++ v0, IntKind.i64.wrap (v1.tdiv 2), v5, ()) else none else X2 (v5, ())
noncomputable def Cu : Nat → (ByteArray) → (Int) → (ByteArray) →  Option ((ByteArray) × Unit)
 | 0, _, _, _ => none
 | m + 1, v0, v1, v5 => Ew  (fun d => Cu m d.1 d.2.1 d.2.2.1) (fun d => some (d)) v0 v1 v5
noncomputable def Gc (a0 : ByteArray) (a1 : Int) : Option ((((ByteArray) × Unit) × (Unit))) :=
 ((fun d => Cu (Ev d.1 d.2.1 d.2.2.1) d.1 d.2.1 d.2.2.1) (a0, a1, ByteArray.mk #[], ())).bind fun val => some (val, ())
theorem Ml : ∃ f, f = @Gc := ⟨_, rfl⟩
noncomputable def m_spec_l1Many := Classical.choose Ml
theorem Mm : @m_spec_l1Many = @Gc := Classical.choose_spec Ml
noncomputable def sd_spec_l1Many : SD := ⟨Vg, fun x => m_spec_l1Many x.1 x.2.1⟩
theorem Q9 : ∀ (m n : Nat) (v0 v5 : ByteArray), n < m → n < 1099511627776 → v5.size + v0.size * n ≤ 1099511627776 → Ah (Cu m v0 n v5) fun r => r.1.size = v5.size + v0.size * n
 | 0, n, v0, v5, h, _, _ => by omega
 | m + 1, n, v0, v5, h, hn, ht => by
  simp only [Cu, Ew]
  refine Ah.cond (fun c => ?_) fun c => ?_
  ·have hp : 0 < n := by simpa using c
   have e : v0.size * n = 2 * (v0.size * (n / 2)) + v0.size * (n % 2) := by
    conv => lhs; rw [← Nat.div_add_mod n 2]
    rw [Nat.mul_add, Nat.mul_left_comm]
   have e' : (v0.size + v0.size) * (n / 2) = 2 * (v0.size * (n / 2)) := by rw [Nat.add_mul]; omega
   have hle : v0.size ≤ v0.size * n := Nat.le_mul_of_pos_right _ hp
   have e1 : IntKind.i64.wrap (Int.tdiv (n : Int) 2) = ((n / 2 : Nat) : Int) := by
    rw [Int.tdiv_eq_ediv_of_nonneg (by omega), Ao (by omega) (by omega)]
    rfl
   have e2 : (Int.tmod (n : Int) 2 == 1) = decide (n % 2 = 1) := by
    rw [Int.tmod_eq_emod_of_nonneg (by omega)]
    by_cases q : n % 2 = 1
    ·rw [decide_eq_true q]; simp; omega
    ·rw [decide_eq_false q]; simp; omega
   rw [e1, e2]
   refine Ah.cond (fun c => ?_) fun c => ?_
   ·rw [of_decide_eq_true c, Nat.mul_one] at e
    refine Ah.go (decide_eq_true (by omega)) (Ah.go (decide_eq_true (by omega)) ?_)
    refine (Q9 m (n / 2) (v0 ++ v0) (v5 ++ v0) (by omega) (by omega) (by simp only [ByteArray.size_append]; omega)).mono fun r q => ?_
    simp only [ByteArray.size_append] at q
    omega
   ·have c := of_decide_eq_false c
    rw [show n % 2 = 0 by omega, Nat.mul_zero] at e
    refine Ah.go (decide_eq_true (by omega)) ?_
    refine (Q9 m (n / 2) (v0 ++ v0) v5 (by omega) (by omega) (by simp only [ByteArray.size_append]; omega)).mono fun r q => ?_
    simp only [ByteArray.size_append] at q
    omega
  ·have : n = 0 := by simpa using c
   subst this
   exact Ah.some (by simp)
theorem K5 (s : ByteArray) (n : Int) (h0 : 0 ≤ n) (h1 : n ≤ 10000) (hs : s.size ≤ 10000) : Ah (m_spec_l1Many s n) fun r => r.1.1.size = s.size * n.toNat := by
 obtain ⟨k, rfl⟩ : ∃ k : Nat, n = (k : Int) := ⟨n.toNat, by omega⟩
 rw [Mm]
 unfold Gc
 have hk : s.size * k ≤ 10000 * 10000 := Nat.mul_le_mul hs (by omega)
 refine Ah.bind (Q9 _ k s (ByteArray.mk #[]) (by simp [Ev]) (by omega) (by show 0 + s.size * k ≤ _; omega)) fun r q => Ah.some ?_
 rw [Int.toNat_natCast]
 exact q.trans (Nat.zero_add _)
noncomputable def J3 {R : Type} (k : Kt R) := (Nc (pa_spec_l1Many 3) (.exit 0) 2 k)
noncomputable def Ns {R : Type} : Lt R pa_spec_l1Many := (Hb (pat := pa_spec_l1Many) 3 (fun d k => (Cu (Ev d.1 d.2.1 d.2.2.1) d.1 d.2.1 d.2.2.1).bind (J3 k)) O6)
theorem Mn : Az Try.prog ta_spec_l1Many := Dz trivial
theorem Ra {R : Type} : Bb Try.prog R 20 0 pa_spec_l1Many Ns co_spec_l1Many_3 :=
 Ec (cfg := ⟨ta_spec_l1Many, 0, 20, pa_spec_l1Many⟩) 3 [] (fun NX X d => Ew  NX X d.1 d.2.1 d.2.2.1) (fun m d => Cu m d.1 d.2.1 d.2.2.1) (fun d => Ev d.1 d.2.1 d.2.2.1) J3 Mn trivial (fun f NX d => by unfold Ew; simp only [A2, A9, Au, Option.bind_assoc, Option.bind_none, Option.bind_some]) (fun _ _ _ => by kernel_rfl)
theorem Ib : Fr Try.prog 73 sd_spec_l1Many :=
 Dl (pat := pa_spec_l1Many) [co_spec_l1Many_3] Ns Mn ⟨Ra, trivial⟩ Try.func73 (de := fun x => Gc x.1 x.2.1) (fun x r h => by have q : m_spec_l1Many x.1 x.2.1 = some r := h; rw [Mm] at q; exact q) fun _ => by kernel_rfl
def C4 (v3 : ByteArray) (v4 : Int) (b0 : (List Int) × Int × Unit) : Nat := v4.toNat + 1
def Ow : Sig := ⟨[.bx 154 (.pair (.sl (.int .u8)) (.pair tI .unit))], [none], [.rd .str], [none]⟩
noncomputable def ta_spec_l1DrawText : Tb := tb [(64, sd_spec_l1Rd__pick), (73, sd_spec_l1Many)]
def pa_spec_l1DrawText : Nat → Pat × (Nat → Pat) := Jx [(13, ⟨[], [(0, .lf (.ptr 0 0)), (3, .lf (.d .str)), (4, .lf (.d tI))], [.box 154 [.d (.pair (.sl (.int .u8)) (.pair tI .unit))]]⟩, [(3, ⟨[], [(3, .lf (.d .str))], [.box 154 [.d (.pair (.sl (.int .u8)) (.pair tI .unit))]]⟩)])]
noncomputable def co_spec_l1DrawText_13 : Code := (At (B7 Try.f117)).getD 0 .skip
noncomputable def C5 {R : Type}  (NX : ((ByteArray) × (Int) × ((List Int) × Int × Unit) × Unit) → Option R) (X3 : ((ByteArray) × ((List Int) × Int × Unit) × Unit) → Option R) (v3 : ByteArray) (v4 : Int) (b0 : (List Int) × Int × Unit) : Option R :=
 bif decide (v4 > 0) then ((Aa b0 4).bind fun val => some ((val.1, ()), val.2, ())).bind fun val => bif decide (0 ≤ val.1.1) then bif decide (val.1.1 ≤ nI (ByteArray.mk #[97, 98, 99, 100]).size) then bif decide (1 ≤ nI (Ag (ByteArray.mk #[97, 98, 99, 100]) val.1.1 (nI (ByteArray.mk #[97, 98, 99, 100]).size)).size) then bif decide (v3.size + (Ag (Ag (ByteArray.mk #[97, 98, 99, 100]) val.1.1 (nI (ByteArray.mk #[97, 98, 99, 100]).size)) 0 1).size ≤ 9223372036854775807) then NX (v3 ++ Ag (Ag (ByteArray.mk #[97, 98, 99, 100]) val.1.1 (nI (ByteArray.mk #[97, 98, 99, 100]).size)) 0 1, IntKind.i64.wrap (v4 - 1), val.2) else none else none else none else none else X3 (v3, b0, ())
noncomputable def Bp : Nat → (ByteArray) → (Int) → ((List Int) × Int × Unit) →  Option ((ByteArray) × ((List Int) × Int × Unit) × Unit)
 | 0, _, _, _ => none
 | m + 1, v3, v4, b0 => C5  (fun d => Bp m d.1 d.2.1 d.2.2.1) (fun d => some (d)) v3 v4 b0
noncomputable def D4 (a0 : (List Int) × Int × Unit) : Option ((((ByteArray) × Unit) × (((List Int) × Int × Unit) × Unit))) :=
 ((Aa a0 8).bind fun val => some ((val.1, ()), val.2, ())).bind fun val => bif val.1.1 == 0 then some ((ByteArray.mk #[], ()), val.2) else bif val.1.1 == 1 then some ((ByteArray.mk #[0, 255], ()), val.2) else bif val.1.1 == 2 then ((Aa val.2.1 21).bind fun val => some ((val.1, ()), val.2, ())).bind fun val => (m_spec_l1Many (ByteArray.mk #[108, 111, 110, 103]) (IntKind.i64.wrap (5 + val.1.1))).bind fun val_1 => some (val_1.1, val.2) else bif val.1.1 == 3 then some ((ByteArray.mk #[45], ()), val.2) else ((Aa val.2.1 4).bind fun val => some ((val.1, ()), val.2, ())).bind fun val => ((fun d => Bp (C4 d.1 d.2.1 d.2.2.1) d.1 d.2.1 d.2.2.1) (ByteArray.mk #[], IntKind.i64.wrap (1 + val.1.1), val.2)).bind fun val => some ((val.1, ()), val.2)
theorem Ic : ∃ f, f = @D4 := ⟨_, rfl⟩
noncomputable def m_spec_l1DrawText := Classical.choose Ic
theorem Id : @m_spec_l1DrawText = @D4 := Classical.choose_spec Ic
noncomputable def sd_spec_l1DrawText : SD := ⟨Ow, fun x => m_spec_l1DrawText x.1⟩
theorem Xz : ∀ (m n : Nat) (k : Nat) (v3 : ByteArray) (r : Rd), n < m → n ≤ 10 → v3.size + n ≤ 100 → Kc k r → k + n < 1099511627776 → Ah (Bp m v3 n r) fun q => q.1.size ≤ 100 ∧ Kc (k + n) q.2.1
 | 0, n, k, v3, r, h, _, _, _, _ => by omega
 | m + 1, n, k, v3, r, h, hn, hs, hr, hk => by
  simp only [Bp, C5]
  refine Ah.cond (fun c => ?_) fun c => ?_
  ·have hp : 0 < n := by simpa using c
   refine Aw hr (by omega) (by omega) fun v r' v0 v1 h' => ?_
   have sz : ((ByteArray.mk #[97, 98, 99, 100]).size : Int) = 4 := rfl
   have e1 := Te (s := ByteArray.mk #[97, 98, 99, 100]) v0 (show v ≤ nI (ByteArray.mk #[97, 98, 99, 100]).size by simp only [nI, sz]; omega) (Int.le_refl _)
   have e2 := Te (s := Ag (ByteArray.mk #[97, 98, 99, 100]) v (nI (ByteArray.mk #[97, 98, 99, 100]).size)) (i := 0) (j := 1) (by omega) (by omega) (by simp only [nI, sz] at e1 ⊢; omega)
   refine Ah.go (decide_eq_true v0) (Ah.go (decide_eq_true (show v ≤ _ by simp only [nI, sz]; omega)) (Ah.go (decide_eq_true (show 1 ≤ nI (Ag (ByteArray.mk #[97, 98, 99, 100]) v (nI (ByteArray.mk #[97, 98, 99, 100]).size)).size by simp only [nI, sz] at e1 ⊢; omega)) (Ah.go (decide_eq_true (show v3.size + (Ag (Ag (ByteArray.mk #[97, 98, 99, 100]) v (nI (ByteArray.mk #[97, 98, 99, 100]).size)) 0 1).size ≤ _ by omega)) ?_)))
   have ew : IntKind.i64.wrap ((n : Int) - 1) = ((n - 1 : Nat) : Int) := by rw [Ao (by omega) (by omega)]; omega
   rw [ew]
   refine (Xz m (n - 1) (k + 1) (v3 ++ Ag (Ag (ByteArray.mk #[97, 98, 99, 100]) v (nI (ByteArray.mk #[97, 98, 99, 100]).size)) 0 1) r' (by omega) (by omega) (by rw [ByteArray.size_append]; omega) h' (by omega)).mono fun q hq => ⟨hq.1, ?_⟩
   rw [show k + 1 + (n - 1) = k + n by omega] at hq
   exact hq.2
  ·have : n = 0 := by simpa using c
   subst this
   exact Ah.some ⟨by show v3.size ≤ 100; omega, hr⟩
theorem Abg {k : Nat} {r : Rd} (h : Kc k r) (hk : k + 10 < 1099511627776) : Ah (m_spec_l1DrawText r) fun q => q.1.1.size ≤ 100 ∧ Kc (k + 10) q.2.1 := by
 rw [Id]
 unfold D4
 refine Aw h (by omega) (by omega) fun v r' v0 v1 h1 => ?_
 refine Ah.cond (fun _ => Ah.some ⟨Nat.zero_le _, h1.mono (by omega)⟩) fun _ => Ah.cond (fun _ => Ah.some ⟨by show 2 ≤ 100; omega, h1.mono (by omega)⟩) fun _ => Ah.cond (fun _ => ?_) fun _ => Ah.cond (fun _ => Ah.some ⟨by show 1 ≤ 100; omega, h1.mono (by omega)⟩) fun _ => ?_
 ·dsimp only
  refine Aw h1 (by omega) (by omega) fun v2 r2 w0 w1 h2 => ?_
  dsimp only
  have ew : IntKind.i64.wrap (5 + v2) = 5 + v2 := Ao (by omega) (by omega)
  simp only [ew]
  refine Ah.bind (K5 (ByteArray.mk #[108, 111, 110, 103]) (5 + v2) (by omega) (by omega) (by decide)) fun q hq => Ah.some ⟨?_, h2.mono (by omega)⟩
  show q.1.1.size ≤ 100
  rw [hq]
  show 4 * _ ≤ 100
  omega
 ·dsimp only
  refine Aw h1 (by omega) (by omega) fun v2 r2 w0 w1 h2 => ?_
  dsimp only
  have ew : IntKind.i64.wrap (1 + v2) = ((1 + v2).toNat : Int) := by rw [Ao (by omega) (by omega)]; omega
  simp only [ew]
  refine Ah.bind (Xz _ (1 + v2).toNat (k + 2) (ByteArray.mk #[]) r2 (by simp only [C4]; omega) (by omega) (by show 0 + _ ≤ 100; omega) h2 (by omega)) fun q hq => Ah.some ⟨hq.1, hq.2.mono (by omega)⟩
noncomputable def Gg {R : Type} (k : Kt R) := (Nc (pa_spec_l1DrawText 13) (.exit 1) 3 k)
noncomputable def I1 {R : Type} : Lt R pa_spec_l1DrawText := (Hb (pat := pa_spec_l1DrawText) 13 (fun d k => (Bp (C4 d.1 d.2.1 d.2.2.1) d.1 d.2.1 d.2.2.1).bind (Gg k)) O6)
theorem Ie : Az Try.prog ta_spec_l1DrawText := Dz ⟨Cz, Ib, trivial⟩
theorem Lj {R : Type} : Bb Try.prog R 33 1 pa_spec_l1DrawText I1 co_spec_l1DrawText_13 :=
 Ec (cfg := ⟨ta_spec_l1DrawText, 1, 33, pa_spec_l1DrawText⟩) 13 [] (fun NX X d => C5  NX X d.1 d.2.1 d.2.2.1) (fun m d => Bp m d.1 d.2.1 d.2.2.1) (fun d => C4 d.1 d.2.1 d.2.2.1) Gg Ie trivial (fun f NX d => by unfold C5; simp only [A2, A9, Au, Option.bind_assoc, Option.bind_none, Option.bind_some]) (fun _ _ _ => by kernel_rfl)
theorem If : Fr Try.prog 117 sd_spec_l1DrawText :=
 Dl (pat := pa_spec_l1DrawText) [co_spec_l1DrawText_13] I1 Ie ⟨Lj, trivial⟩ Try.func117 (de := fun x => D4 x.1) (fun x r h => by have q : m_spec_l1DrawText x.1 = some r := h; rw [Id] at q; exact q) fun _ => by kernel_rfl
def Ng : Sig := ⟨[.bx 154 (.pair (.sl (.int .u8)) (.pair tI .unit))], [none], [.own 90 Cs], [none]⟩
noncomputable def ta_spec_l4DrawBatch : Tb := tb [(64, sd_spec_l1Rd__pick), (117, sd_spec_l1DrawText)]
def pa_spec_l4DrawBatch : Nat → Pat × (Nat → Pat) := Jx [(7, ⟨[.row 3 0 90 Cs], [(0, .lf (.ptr 0 0)), (3, .lf (.row 1)), (4, .lf (.d tI)), (5, .lf (.d tI))], [.box 154 [.d (.pair (.sl (.int .u8)) (.pair tI .unit))], .row 90 Cs]⟩, [(2, ⟨[.row 3 0 90 Cs], [(3, .lf (.row 1))], [.box 154 [.d (.pair (.sl (.int .u8)) (.pair tI .unit))], .row 90 Cs]⟩)])]
noncomputable def co_spec_l4DrawBatch_7 : Code := (At (B7 Try.f63)).getD 0 .skip
def Bq (v4 : Int) (v5 : Int) (b0 : (List Int) × Int × Unit) (r1 : List Chg) : Nat := (v4 - v5).toNat + 1
noncomputable def C6 {R : Type}  (NX : ((Int) × (Int) × ((List Int) × Int × Unit) × (List Chg) × Unit) → Option R) (X2 : (((List Int) × Int × Unit) × (List Chg) × Unit) → Option R) (v4 : Int) (v5 : Int) (b0 : (List Int) × Int × Unit) (r1 : List Chg) : Option R :=
 bif decide (v5 < v4) then ((Aa b0 8).bind fun val => some ((val.1, ()), val.2, ())).bind fun val => bif decide (0 ≤ val.1.1) then bif decide (val.1.1 ≤ nI (ByteArray.mk #[97, 98, 99, 100, 101, 102, 103, 104]).size) then bif decide (1 ≤ nI (Ag (ByteArray.mk #[97, 98, 99, 100, 101, 102, 103, 104]) val.1.1 (nI (ByteArray.mk #[97, 98, 99, 100, 101, 102, 103, 104]).size)).size) then bif decide ((ByteArray.mk #[107]).size + (Ag (Ag (ByteArray.mk #[97, 98, 99, 100, 101, 102, 103, 104]) val.1.1 (nI (ByteArray.mk #[97, 98, 99, 100, 101, 102, 103, 104]).size)) 0 1).size ≤ 9223372036854775807) then ((Aa val.2.1 4).bind fun val => some ((val.1, ()), val.2, ())).bind fun val_1 => bif decide (v4 > 8) then ((Aa val_1.2.1 3).bind fun val => some ((val.1, ()), val.2, ())).bind fun val_2 => bif decide (0 ≤ val_2.1.1) then bif decide (val_2.1.1 ≤ nI (ByteArray.mk #[120, 121, 122]).size) then bif decide (1 ≤ nI (Ag (ByteArray.mk #[120, 121, 122]) val_2.1.1 (nI (ByteArray.mk #[120, 121, 122]).size)).size) then bif decide ((ByteArray.mk #[107] ++ Ag (Ag (ByteArray.mk #[97, 98, 99, 100, 101, 102, 103, 104]) val.1.1 (nI (ByteArray.mk #[97, 98, 99, 100, 101, 102, 103, 104]).size)) 0 1).size + (Ag (Ag (ByteArray.mk #[120, 121, 122]) val_2.1.1 (nI (ByteArray.mk #[120, 121, 122]).size)) 0 1).size ≤ 9223372036854775807) then bif !val_1.1.1 == 0 then (m_spec_l1DrawText val_2.2.1).bind fun val_3 => bif decide (nI (ByteArray.size val_3.1.1) > 100) then bif decide (100 ≤ nI (ByteArray.size val_3.1.1)) then bif decide ((r1.length + [(ByteArray.mk #[107] ++ Ag (Ag (ByteArray.mk #[97, 98, 99, 100, 101, 102, 103, 104]) val.1.1 (nI (ByteArray.mk #[97, 98, 99, 100, 101, 102, 103, 104]).size)) 0 1 ++ Ag (Ag (ByteArray.mk #[120, 121, 122]) val_2.1.1 (nI (ByteArray.mk #[120, 121, 122]).size)) 0 1, Ag val_3.1.1 0 100, val_1.1.1 == 0, ())].length) * 40 ≤ 140737488355328) then NX (v4, IntKind.i64.wrap (v5 + 1), val_3.2.1, r1 ++ [(ByteArray.mk #[107] ++ Ag (Ag (ByteArray.mk #[97, 98, 99, 100, 101, 102, 103, 104]) val.1.1 (nI (ByteArray.mk #[97, 98, 99, 100, 101, 102, 103, 104]).size)) 0 1 ++ Ag (Ag (ByteArray.mk #[120, 121, 122]) val_2.1.1 (nI (ByteArray.mk #[120, 121, 122]).size)) 0 1, Ag val_3.1.1 0 100, val_1.1.1 == 0, ())], ()) else none else none else bif decide ((r1.length + [(ByteArray.mk #[107] ++ Ag (Ag (ByteArray.mk #[97, 98, 99, 100, 101, 102, 103, 104]) val.1.1 (nI (ByteArray.mk #[97, 98, 99, 100, 101, 102, 103, 104]).size)) 0 1 ++ Ag (Ag (ByteArray.mk #[120, 121, 122]) val_2.1.1 (nI (ByteArray.mk #[120, 121, 122]).size)) 0 1, val_3.1.1, val_1.1.1 == 0, ())].length) * 40 ≤ 140737488355328) then NX (v4, IntKind.i64.wrap (v5 + 1), val_3.2.1, r1 ++ [(ByteArray.mk #[107] ++ Ag (Ag (ByteArray.mk #[97, 98, 99, 100, 101, 102, 103, 104]) val.1.1 (nI (ByteArray.mk #[97, 98, 99, 100, 101, 102, 103, 104]).size)) 0 1 ++ Ag (Ag (ByteArray.mk #[120, 121, 122]) val_2.1.1 (nI (ByteArray.mk #[120, 121, 122]).size)) 0 1, val_3.1.1, val_1.1.1 == 0, ())], ()) else none else bif decide ((r1.length + [(ByteArray.mk #[107] ++ Ag (Ag (ByteArray.mk #[97, 98, 99, 100, 101, 102, 103, 104]) val.1.1 (nI (ByteArray.mk #[97, 98, 99, 100, 101, 102, 103, 104]).size)) 0 1 ++ Ag (Ag (ByteArray.mk #[120, 121, 122]) val_2.1.1 (nI (ByteArray.mk #[120, 121, 122]).size)) 0 1, ByteArray.mk #[], val_1.1.1 == 0, ())].length) * 40 ≤ 140737488355328) then NX (v4, IntKind.i64.wrap (v5 + 1), val_2.2.1, r1 ++ [(ByteArray.mk #[107] ++ Ag (Ag (ByteArray.mk #[97, 98, 99, 100, 101, 102, 103, 104]) val.1.1 (nI (ByteArray.mk #[97, 98, 99, 100, 101, 102, 103, 104]).size)) 0 1 ++ Ag (Ag (ByteArray.mk #[120, 121, 122]) val_2.1.1 (nI (ByteArray.mk #[120, 121, 122]).size)) 0 1, ByteArray.mk #[], val_1.1.1 == 0, ())], ()) else none else none else none else none else none else bif !val_1.1.1 == 0 then (m_spec_l1DrawText val_1.2.1).bind fun val_2 => bif decide (nI (ByteArray.size val_2.1.1) > 100) then bif decide (100 ≤ nI (ByteArray.size val_2.1.1)) then bif decide ((r1.length + [(ByteArray.mk #[107] ++ Ag (Ag (ByteArray.mk #[97, 98, 99, 100, 101, 102, 103, 104]) val.1.1 (nI (ByteArray.mk #[97, 98, 99, 100, 101, 102, 103, 104]).size)) 0 1, Ag val_2.1.1 0 100, val_1.1.1 == 0, ())].length) * 40 ≤ 140737488355328) then NX (v4, IntKind.i64.wrap (v5 + 1), val_2.2.1, r1 ++ [(ByteArray.mk #[107] ++ Ag (Ag (ByteArray.mk #[97, 98, 99, 100, 101, 102, 103, 104]) val.1.1 (nI (ByteArray.mk #[97, 98, 99, 100, 101, 102, 103, 104]).size)) 0 1, Ag val_2.1.1 0 100, val_1.1.1 == 0, ())], ()) else none else none else bif decide ((r1.length + [(ByteArray.mk #[107] ++ Ag (Ag (ByteArray.mk #[97, 98, 99, 100, 101, 102, 103, 104]) val.1.1 (nI (ByteArray.mk #[97, 98, 99, 100, 101, 102, 103, 104]).size)) 0 1, val_2.1.1, val_1.1.1 == 0, ())].length) * 40 ≤ 140737488355328) then NX (v4, IntKind.i64.wrap (v5 + 1), val_2.2.1, r1 ++ [(ByteArray.mk #[107] ++ Ag (Ag (ByteArray.mk #[97, 98, 99, 100, 101, 102, 103, 104]) val.1.1 (nI (ByteArray.mk #[97, 98, 99, 100, 101, 102, 103, 104]).size)) 0 1, val_2.1.1, val_1.1.1 == 0, ())], ()) else none else bif decide ((r1.length + [(ByteArray.mk #[107] ++ Ag (Ag (ByteArray.mk #[97, 98, 99, 100, 101, 102, 103, 104]) val.1.1 (nI (ByteArray.mk #[97, 98, 99, 100, 101, 102, 103, 104]).size)) 0 1, ByteArray.mk #[], val_1.1.1 == 0, ())].length) * 40 ≤ 140737488355328) then NX (v4, IntKind.i64.wrap (v5 + 1), val_1.2.1, r1 ++ [(ByteArray.mk #[107] ++ Ag (Ag (ByteArray.mk #[97, 98, 99, 100, 101, 102, 103, 104]) val.1.1 (nI (ByteArray.mk #[97, 98, 99, 100, 101, 102, 103, 104]).size)) 0 1, ByteArray.mk #[], val_1.1.1 == 0, ())], ()) else none else none else none else none else none else X2 (b0, r1, ())
noncomputable def Al : Nat → (Int) → (Int) → ((List Int) × Int × Unit) → (List Chg) →  Option (((List Int) × Int × Unit) × (List Chg) × Unit)
 | 0, _, _, _, _ => none
 | m + 1, v4, v5, b0, r1 => C6  (fun d => Al m d.1 d.2.1 d.2.2.1 d.2.2.2.1) (fun d => some (d)) v4 v5 b0 r1
noncomputable def Dm (a0 : (List Int) × Int × Unit) : Option ((((List Chg) × Unit) × (((List Int) × Int × Unit) × Unit))) :=
 ((Aa a0 4).bind fun val => some ((val.1, ()), val.2, ())).bind fun val => ((Aa val.2.1 10).bind fun val => some ((val.1, ()), val.2, ())).bind fun val_1 => bif val_1.1.1 == 0 then ((Aa val_1.2.1 2).bind fun val => some ((val.1, ()), val.2, ())).bind fun val => ((fun d => Al (Bq d.1 d.2.1 d.2.2.1 d.2.2.2.1) d.1 d.2.1 d.2.2.1 d.2.2.2.1) (IntKind.i64.wrap (20 - val.1.1), 0, val.2.1, [], ())).bind fun val => some (val.2, val.1, ()) else ((fun d => Al (Bq d.1 d.2.1 d.2.2.1 d.2.2.2.1) d.1 d.2.1 d.2.2.1 d.2.2.2.1) (IntKind.i64.wrap (1 + val.1.1), 0, val_1.2.1, [], ())).bind fun val => some (val.2, val.1, ())
theorem Hf : ∃ f, f = @Dm := ⟨_, rfl⟩
noncomputable def m_spec_l4DrawBatch := Classical.choose Hf
theorem Hg : @m_spec_l4DrawBatch = @Dm := Classical.choose_spec Hf
noncomputable def sd_spec_l4DrawBatch : SD := ⟨Ng, fun x => m_spec_l4DrawBatch x.1⟩
theorem Vh (n : Nat) (hn : n ≤ 20) : ∀ (m i k : Nat) (r : Rd) (l : List Chg), n - i < m → i ≤ n → l.length = i → (∀ c ∈ l, Jg c) → Kc k r → k + 15 * (n - i) < 1099511627776 →
  Ah (Al m n i r l) fun q => Kc (k + 15 * (n - i)) q.1 ∧ q.2.1.length = n ∧ ∀ c ∈ q.2.1, Jg c
 | 0, i, k, r, l, h, _, _, _, _, _ => by omega
 | m + 1, i, k, r, l, h, hi, hl, hc, hr, hk => by
  simp only [Al, C6]
  refine Ah.cond (fun c => ?_) fun c => ?_
  ·have hi' : i < n := by simpa using c
   have fin : ∀ (c : Chg) (r' : Rd), Jg c → Kc (k + 15) r' → Ah (bif decide ((l.length + [c].length) * 40 ≤ 140737488355328) then Al m n (IntKind.i64.wrap ((i : Int) + 1)) r' (l ++ [c]) else none) fun q => Kc (k + 15 * (n - i)) q.1 ∧ q.2.1.length = n ∧ ∀ c ∈ q.2.1, Jg c := fun c r' h1 h2 => by
    refine Ah.go (decide_eq_true (by simp only [List.length_singleton]; omega)) ?_
    rw [wI (by omega)]
    refine (Vh n hn m (i + 1) (k + 15) r' (l ++ [c]) (by omega) (by omega) (by rw [List.length_append, List.length_singleton, hl]) (k9 hc h1) h2 (by omega)).mono fun q hq => ?_
    rw [show k + 15 + 15 * (n - (i + 1)) = k + 15 * (n - i) by omega] at hq
    exact hq
   refine Aw hr (by omega) (by omega) fun v r1 v0 v1 h1 => ?_
   dsimp only
   refine Ah.letter v0 v1 fun s1 => ?_
   generalize Ag (Ag (ByteArray.mk #[97, 98, 99, 100, 101, 102, 103, 104]) v (nI (ByteArray.mk #[97, 98, 99, 100, 101, 102, 103, 104]).size)) 0 1 = c1 at *
   have k1 : (ByteArray.mk #[107] ++ c1).size = 2 := by rw [ByteArray.size_append, s1]; rfl
   refine Ah.go (decide_eq_true (by rw [s1]; decide)) ?_
   refine Aw h1 (by omega) (by omega) fun g r2 g0 g1 h2 => ?_
   dsimp only
   have val : ∀ (key : ByteArray) (r3 : Rd), key.size ≤ 1000 → Kc (k + 3) r3 → Ah (bif !(g == 0) then (m_spec_l1DrawText r3).bind fun val => bif decide (nI (ByteArray.size val.1.1) > 100) then bif decide (100 ≤ nI (ByteArray.size val.1.1)) then bif decide ((l.length + [((key, Ag val.1.1 0 100, g == 0, ()) : Chg)].length) * 40 ≤ 140737488355328) then Al m n (IntKind.i64.wrap ((i : Int) + 1)) val.2.1 (l ++ [(key, Ag val.1.1 0 100, g == 0, ())]) else none else none
     else bif decide ((l.length + [((key, val.1.1, g == 0, ()) : Chg)].length) * 40 ≤ 140737488355328) then Al m n (IntKind.i64.wrap ((i : Int) + 1)) val.2.1 (l ++ [(key, val.1.1, g == 0, ())]) else none
     else bif decide ((l.length + [((key, ByteArray.mk #[], g == 0, ()) : Chg)].length) * 40 ≤ 140737488355328) then Al m n (IntKind.i64.wrap ((i : Int) + 1)) r3 (l ++ [(key, ByteArray.mk #[], g == 0, ())]) else none) fun q => Kc (k + 15 * (n - i)) q.1 ∧ q.2.1.length = n ∧ ∀ c ∈ q.2.1, Jg c := fun key r3 hkey h3 => by
    refine Ah.cond (fun _ => ?_) fun _ => fin _ _ ⟨hkey, Nat.zero_le _⟩ (h3.mono (by omega))
    refine Ah.bind (Abg h3 (by omega)) fun q hq => ?_
    refine Ah.cond (fun c => ?_) fun c => fin _ _ ⟨hkey, by show q.1.1.size ≤ 1000; omega⟩ (hq.2.mono (by omega))
    exfalso
    have c := of_decide_eq_true c
    simp only [nI] at c
    omega
   refine Ah.cond (fun _ => ?_) fun _ => val _ r2 (by rw [k1]; decide) (h2.mono (by omega))
   refine Aw h2 (by omega) (by omega) fun w r3 w0 w1 h3 => ?_
   dsimp only
   refine Ah.letter w0 w1 fun s2 => ?_
   generalize Ag (Ag (ByteArray.mk #[120, 121, 122]) w (nI (ByteArray.mk #[120, 121, 122]).size)) 0 1 = c2 at *
   refine Ah.go (decide_eq_true (by rw [s2, k1]; decide)) ?_
   exact val _ r3 (by rw [ByteArray.size_append, s2, k1]; decide) (h3.mono (by omega))
  ·have : i = n := by have := of_decide_eq_false c; omega
   subst this
   exact Ah.some ⟨hr.mono (by omega), hl, hc⟩
theorem l3 {k : Nat} {r : Rd} (h : Kc k r) (hk : k + 400 < 1099511627776) : Ah (m_spec_l4DrawBatch r) fun q => (1 ≤ q.1.1.length ∧ q.1.1.length ≤ 20 ∧ ∀ c ∈ q.1.1, Jg c) ∧ Kc (k + 400) q.2.1 := by
 rw [Hg]
 unfold Dm
 refine Aw h (by omega) (by omega) fun v r1 v0 v1 h1 => ?_
 dsimp only
 refine Aw h1 (by omega) (by omega) fun w r2 w0 w1 h2 => ?_
 dsimp only
 have fin : ∀ (n : Nat) (x : Int) (r3 : Rd), x = (n : Int) → 1 ≤ n → n ≤ 20 → Kc (k + 3) r3 → Ah ((Al (Bq x 0 r3 []) x 0 r3 []).bind fun val => some ((val.2.1, ()), val.1, ())) fun q => (1 ≤ q.1.1.length ∧ q.1.1.length ≤ 20 ∧ ∀ c ∈ q.1.1, Jg c) ∧ Kc (k + 400) q.2.1 := fun n x r3 hx n1 n2 h3 => by
  subst hx
  refine Ah.bind (Vh n n2 _ 0 (k + 3) r3 [] (by simp only [Bq]; omega) (by omega) rfl (fun c hc => by cases hc) h3 (by omega)) fun q hq => Ah.some ⟨⟨by show 1 ≤ q.2.1.length; omega, by show q.2.1.length ≤ 20; omega, hq.2.2⟩, hq.1.mono (by omega)⟩
 refine Ah.cond (fun _ => ?_) fun _ => ?_
 ·refine Aw h2 (by omega) (by omega) fun u r3 u0 u1 h3 => ?_
  dsimp only
  exact fin (20 - u).toNat _ r3 (by rw [Ao (by omega) (by omega)]; omega) (by omega) (by omega) h3
 ·exact fin (1 + v).toNat _ r2 (by rw [Ao (by omega) (by omega)]; omega) (by omega) (by omega) (h2.mono (by omega))
noncomputable def Gi {R : Type} (k : Kt R) := (Nc (pa_spec_l4DrawBatch 7) (.exit 0) 2 k)
noncomputable def Ig {R : Type} : Lt R pa_spec_l4DrawBatch := (Hb (pat := pa_spec_l4DrawBatch) 7 (fun d k => (Al (Bq d.1 d.2.1 d.2.2.1 d.2.2.2.1) d.1 d.2.1 d.2.2.1 d.2.2.2.1).bind (Gi k)) O6)
theorem Hh : Az Try.prog ta_spec_l4DrawBatch := Dz ⟨Cz, If, trivial⟩
theorem Lk {R : Type} : Bb Try.prog R 60 1 pa_spec_l4DrawBatch Ig co_spec_l4DrawBatch_7 :=
 Ec (cfg := ⟨ta_spec_l4DrawBatch, 1, 60, pa_spec_l4DrawBatch⟩) 7 [] (fun NX X d => C6  NX X d.1 d.2.1 d.2.2.1 d.2.2.2.1) (fun m d => Al m d.1 d.2.1 d.2.2.1 d.2.2.2.1) (fun d => Bq d.1 d.2.1 d.2.2.1 d.2.2.2.1) Gi Hh trivial (fun f NX d => by unfold C6; simp only [A2, A9, Au, Option.bind_assoc, Option.bind_none, Option.bind_some]) (fun _ _ _ => by kernel_rfl)
theorem Hi : Fr Try.prog 63 sd_spec_l4DrawBatch :=
 Dl (pat := pa_spec_l4DrawBatch) [co_spec_l4DrawBatch_7] Ig Hh ⟨Lk, trivial⟩ Try.func63 (de := fun x => Dm x.1) (fun x r h => by have q : m_spec_l4DrawBatch x.1 = some r := h; rw [Hg] at q; exact q) fun _ => by kernel_rfl
def Cl (v7 : Int) (b0 : (List Int) × Int × Unit) (r1 : List Chg) : Nat := (v7 - (r1.length : Int)).toNat + 1
def Mo : Sig := ⟨[.bx 154 (.pair (.sl (.int .u8)) (.pair tI .unit)), .rd (.sl Cs)], [none, none], [.own 90 Cs], [none]⟩
noncomputable def ta_spec_l4SpoilBatch : Tb := tb [(64, sd_spec_l1Rd__pick), (73, sd_spec_l1Many)]
def pa_spec_l4SpoilBatch : Nat → Pat × (Nat → Pat) := Jx [(17, ⟨[.row 5 0 90 Cs], [(5, .lf (.row 1)), (7, .lf (.d tI))], [.box 154 [.d (.pair (.sl (.int .u8)) (.pair tI .unit))], .row 90 Cs]⟩, [(3, ⟨[.row 5 0 90 Cs], [(5, .lf (.row 1))], [.box 154 [.d (.pair (.sl (.int .u8)) (.pair tI .unit))], .row 90 Cs]⟩)])]
noncomputable def co_spec_l4SpoilBatch_17 : Code := (At (B7 Try.f65)).getD 0 .skip
noncomputable def Cm {R : Type}  (NX : ((Int) × ((List Int) × Int × Unit) × (List Chg) × Unit) → Option R) (X3 : (((List Int) × Int × Unit) × (List Chg) × Unit) → Option R) (v7 : Int) (b0 : (List Int) × Int × Unit) (r1 : List Chg) : Option R :=
 bif decide (nI r1.length < v7) then bif decide (0 < nI r1.length) then bif decide ((r1.length + [r1.getD (Int.toNat 0) (ByteArray.mk #[], ByteArray.mk #[], false, ())].length) * 40 ≤ 140737488355328) then NX (v7, b0, r1 ++ [r1.getD (Int.toNat 0) (ByteArray.mk #[], ByteArray.mk #[], false, ())], ()) else none else none else X3 (b0, r1, ())
noncomputable def Bc : Nat → (Int) → ((List Int) × Int × Unit) → (List Chg) →  Option (((List Int) × Int × Unit) × (List Chg) × Unit)
 | 0, _, _, _ => none
 | m + 1, v7, b0, r1 => Cm  (fun d => Bc m d.1 d.2.1 d.2.2.1) (fun d => some (d)) v7 b0 r1
noncomputable def Dg (a0 : (List Int) × Int × Unit) (a1 : List Chg) : Option ((((List Chg) × Unit) × (((List Int) × Int × Unit) × Unit))) :=
 bif decide ((0 + a1.length) * 40 ≤ 140737488355328) then ((Aa a0 (nI ([] ++ a1).length)).bind fun val => some ((val.1, ()), val.2, ())).bind fun val => bif nI ([] ++ a1).length == 0 then some (([] ++ a1, ()), val.2) else ((Aa val.2.1 6).bind fun val => some ((val.1, ()), val.2, ())).bind fun val_1 => bif val_1.1.1 == 0 then some (([], ()), val_1.2) else bif val_1.1.1 == 1 then ((Aa val_1.2.1 2).bind fun val => some ((val.1, ()), val.2, ())).bind fun val_2 => (m_spec_l1Many (ByteArray.mk #[107]) (IntKind.i64.wrap (20 + val_2.1.1))).bind fun val_3 => ((Aa val_2.2.1 2).bind fun val => some ((val.1, ()), val.2, ())).bind fun val_4 => bif decide (0 ≤ val_4.1.1) then bif decide (val_4.1.1 < nI [ByteArray.mk #[], val_3.1.1].length) then bif decide (0 ≤ val.1.1) then bif decide (val.1.1 < nI ([] ++ a1).length) then bif decide (Int.toNat val.1.1 < ([] ++ a1).length) then some ((([] ++ a1).set (Int.toNat val.1.1) ([ByteArray.mk #[], val_3.1.1].getD (Int.toNat val_4.1.1) (ByteArray.mk #[]), (([] ++ a1).getD (Int.toNat val.1.1) (ByteArray.mk #[], ByteArray.mk #[], false, ())).2), ()), val_4.2) else none else none else none else none else none else bif val_1.1.1 == 2 then ((Aa val_1.2.1 2).bind fun val => some ((val.1, ()), val.2, ())).bind fun val_2 => (m_spec_l1Many (ByteArray.mk #[118]) (IntKind.i64.wrap (100 + val_2.1.1))).bind fun val_3 => bif decide (0 ≤ val.1.1) then bif decide (val.1.1 < nI ([] ++ a1).length) then bif decide (Int.toNat val.1.1 < ([] ++ a1).length) then some ((([] ++ a1).set (Int.toNat val.1.1) ((([] ++ a1).getD (Int.toNat val.1.1) (ByteArray.mk #[], ByteArray.mk #[], false, ())).1, val_3.1.1, (([] ++ a1).getD (Int.toNat val.1.1) (ByteArray.mk #[], ByteArray.mk #[], false, ())).2.2), ()), val_2.2) else none else none else none else bif val_1.1.1 == 3 then bif decide (0 ≤ val.1.1) then bif decide (val.1.1 < nI ([] ++ a1).length) then bif decide (0 ≤ val.1.1) then bif decide (val.1.1 < nI ([] ++ a1).length) then bif decide (Int.toNat val.1.1 < ([] ++ a1).length) then some ((([] ++ a1).set (Int.toNat val.1.1) ((([] ++ a1).getD (Int.toNat val.1.1) (ByteArray.mk #[], ByteArray.mk #[], false, ())).1, (([] ++ a1).getD (Int.toNat val.1.1) (ByteArray.mk #[], ByteArray.mk #[], false, ())).2.1, !(([] ++ a1).getD (Int.toNat val.1.1) (ByteArray.mk #[], ByteArray.mk #[], false, ())).2.2.1, ()), ()), val_1.2) else none else none else none else none else none else bif val_1.1.1 == 4 then ((Aa val_1.2.1 2).bind fun val => some ((val.1, ()), val.2, ())).bind fun val => ((fun d => Bc (Cl d.1 d.2.1 d.2.2.1) d.1 d.2.1 d.2.2.1) (IntKind.i64.wrap (20 + val.1.1), val.2.1, [] ++ a1, ())).bind fun val => some (val.2, val.1, ()) else some (([] ++ a1, ()), val_1.2) else none
theorem G5 : ∃ f, f = @Dg := ⟨_, rfl⟩
noncomputable def m_spec_l4SpoilBatch := Classical.choose G5
theorem G6 : @m_spec_l4SpoilBatch = @Dg := Classical.choose_spec G5
noncomputable def sd_spec_l4SpoilBatch : SD := ⟨Mo, fun x => m_spec_l4SpoilBatch x.1 x.2.1⟩
theorem Vi (n : Nat) (hn : n ≤ 21) (r : Rd) : ∀ (m : Nat) (l : List Chg), n - l.length < m → 0 < l.length → l.length ≤ 21 → (∀ c ∈ l, Jg c) → Ah (Bc m n r l) fun q => q.1 = r ∧ q.2.1.length ≤ 21 ∧ ∀ c ∈ q.2.1, Jg c
 | 0, l, h, _, _, _ => by omega
 | m + 1, l, h, h0, hl, hc => by
  simp only [Bc, Cm]
  refine Ah.cond (fun c => ?_) fun c => Ah.some ⟨rfl, hl, hc⟩
  have c : l.length < n := by have := of_decide_eq_true c; simp only [nI] at this; omega
  refine Ah.go (decide_eq_true (by simp only [nI]; omega)) (Ah.go (decide_eq_true (by simp only [List.length_singleton]; omega)) ?_)
  have hx : Jg (l.getD (Int.toNat 0) (ByteArray.mk #[], ByteArray.mk #[], false, ())) := x6 (v := 0) hc (by omega) (by simp only [nI]; omega)
  exact Vi n hn r m _ (by rw [List.length_append, List.length_singleton]; omega) (by rw [List.length_append, List.length_singleton]; omega) (by rw [List.length_append, List.length_singleton]; omega) (k9 hc hx)
theorem Afq {l : List Chg} {c : Chg} (h : ∀ c ∈ l, Jg c) (hc : Jg c) (i : Nat) : ∀ x ∈ l.set i c, Jg x := fun x hx => by
 rcases List.mem_or_eq_of_mem_set hx with q | q
 ·exact h x q
 ·rw [q]; exact hc
theorem Aej {k : Nat} {r : Rd} {l : List Chg} (h : Kc k r) (hk : k + 10 < 1099511627776) (hl : l.length ≤ 20) (hc : ∀ c ∈ l, Jg c) : Ah (m_spec_l4SpoilBatch r l) fun q => (q.1.1.length ≤ 21 ∧ ∀ c ∈ q.1.1, Jg c) ∧ Kc (k + 10) q.2.1 := by
 rw [G6]
 unfold Dg
 rw [List.nil_append]
 refine Ah.go (decide_eq_true (by omega)) ?_
 refine Acg h (by omega) fun v r1 v0 v1 v2 h1 => ?_
 dsimp only
 refine Ah.cond (fun _ => Ah.some ⟨⟨by show l.length ≤ 21; omega, hc⟩, h1.mono (by omega)⟩) fun hz => ?_
 have hn : 0 < l.length := by
  simp only [nI, beq_eq_false_iff_ne] at hz
  omega
 have v1 := v1 (by simp only [nI]; omega)
 have hx : Jg (l.getD v.toNat (ByteArray.mk #[], ByteArray.mk #[], false, ())) := x6 hc v0 v1
 have so : ∀ c, Jg c → (l.set v.toNat c).length ≤ 21 ∧ ∀ x ∈ l.set v.toNat c, Jg x := fun c h => ⟨by rw [List.length_set]; omega, Afq hc h _⟩
 have c0 : decide (0 ≤ v) = true := decide_eq_true v0
 have c1 : decide (v < nI l.length) = true := decide_eq_true v1
 have c2 : decide (v.toNat < l.length) = true := decide_eq_true (by simp only [nI] at v1; omega)
 refine Aw h1 (by omega) (by omega) fun w r2 w0 w1 h2 => ?_
 dsimp only
 refine Ah.cond (fun _ => Ah.some ⟨⟨Nat.zero_le _, fun c hc => by cases hc⟩, h2.mono (by omega)⟩) fun _ => Ah.cond (fun _ => ?_) fun _ => Ah.cond (fun _ => ?_) fun _ => Ah.cond (fun _ => ?_) fun _ => Ah.cond (fun _ => ?_) fun _ => Ah.some ⟨⟨by show l.length ≤ 21; omega, hc⟩, h2.mono (by omega)⟩
 ·refine Aw h2 (by omega) (by omega) fun u r3 u0 u1 h3 => ?_
  dsimp only
  have ew : IntKind.i64.wrap (20 + u) = 20 + u := Ao (by omega) (by omega)
  rw [ew]
  refine Ah.bind (K5 (ByteArray.mk #[107]) (20 + u) (by omega) (by omega) (by decide)) fun q hq => ?_
  refine Aw h3 (by omega) (by omega) fun z r4 z0 z1 h4 => ?_
  dsimp only
  refine Ah.go (decide_eq_true z0) (Ah.go (decide_eq_true z1) (Ah.go c0 (Ah.go c1 (Ah.go c2 (Ah.some ⟨so _ ⟨?_, ?_⟩, h4.mono (by omega)⟩)))))
  ·refine x6 (l := [ByteArray.mk #[], q.1.1]) (Q := fun x : ByteArray => x.size ≤ 1000) (fun x hx => ?_) z0 z1
   simp only [List.mem_cons, List.not_mem_nil, or_false] at hx
   rcases hx with rfl | rfl
   ·exact Nat.zero_le _
   ·rw [hq]
    show 1 * _ ≤ 1000
    omega
  ·exact hx.2
 ·refine Aw h2 (by omega) (by omega) fun u r3 u0 u1 h3 => ?_
  dsimp only
  have ew : IntKind.i64.wrap (100 + u) = 100 + u := Ao (by omega) (by omega)
  rw [ew]
  refine Ah.bind (K5 (ByteArray.mk #[118]) (100 + u) (by omega) (by omega) (by decide)) fun q hq => ?_
  refine Ah.go c0 (Ah.go c1 (Ah.go c2 (Ah.some ⟨so _ ⟨?_, ?_⟩, h3.mono (by omega)⟩)))
  ·exact hx.1
  ·show q.1.1.size ≤ 1000
   rw [hq]
   show 1 * _ ≤ 1000
   omega
 ·exact Ah.go c0 (Ah.go c1 (Ah.go c0 (Ah.go c1 (Ah.go c2 (Ah.some ⟨so _ (by exact ⟨hx.1, hx.2⟩), h2.mono (by omega)⟩)))))
 ·refine Aw h2 (by omega) (by omega) fun u r3 u0 u1 h3 => ?_
  dsimp only
  have ew : IntKind.i64.wrap (20 + u) = ((20 + u).toNat : Int) := by rw [Ao (by omega) (by omega)]; omega
  rw [ew]
  refine Ah.bind (Vi (20 + u).toNat (by omega) r3 _ l (by simp only [Cl]; omega) hn (by omega) hc) fun q hq => Ah.some ⟨hq.2, ?_⟩
  show Kc (k + 10) q.1
  rw [hq.1]
  exact h3.mono (by omega)
noncomputable def Fp {R : Type} (k : Kt R) := (Nc (pa_spec_l4SpoilBatch 17) (.exit 1) 3 k)
noncomputable def Hj {R : Type} : Lt R pa_spec_l4SpoilBatch := (Hb (pat := pa_spec_l4SpoilBatch) 17 (fun d k => (Bc (Cl d.1 d.2.1 d.2.2.1) d.1 d.2.1 d.2.2.1).bind (Fp k)) O6)
theorem G7 : Az Try.prog ta_spec_l4SpoilBatch := Dz ⟨Cz, Ib, trivial⟩
theorem J4 {R : Type} : Bb Try.prog R 77 1 pa_spec_l4SpoilBatch Hj co_spec_l4SpoilBatch_17 :=
 Ec (cfg := ⟨ta_spec_l4SpoilBatch, 1, 77, pa_spec_l4SpoilBatch⟩) 17 [] (fun NX X d => Cm  NX X d.1 d.2.1 d.2.2.1) (fun m d => Bc m d.1 d.2.1 d.2.2.1) (fun d => Cl d.1 d.2.1 d.2.2.1) Fp G7 trivial (fun f NX d => by unfold Cm; simp only [A2, A9, Au, Option.bind_assoc, Option.bind_none, Option.bind_some]) (fun _ _ _ => by kernel_rfl)
theorem Mq : Fr Try.prog 65 sd_spec_l4SpoilBatch :=
 Dl (pat := pa_spec_l4SpoilBatch) [co_spec_l4SpoilBatch_17] Hj G7 ⟨J4, trivial⟩ Try.func65 (de := fun x => Dg x.1 x.2.1) (fun x r h => by have q : m_spec_l4SpoilBatch x.1 x.2.1 = some r := h; rw [G6] at q; exact q) fun _ => by kernel_rfl
def En (k : ByteArray) : Bool := Fm k
def Sm : Sig := ⟨[.rd .str], [none], [.rd .bool], [none]⟩
noncomputable def sd_spec_l4KeyOk : SD := ⟨Sm, fun x => some (((En x.1), ()), (()))⟩
noncomputable def Hd (a0 : ByteArray) : Option ((((Bool) × Unit) × (Unit))) :=
 bif decide (nI a0.size ≥ 1) then some ((decide (nI a0.size ≤ 20), ()), ()) else some ((false, ()), ())
theorem Sn (a0 : ByteArray) : Hd a0 = some ((En a0, ()), ()) := by
 unfold Hd En Fm M8
 by_cases h : (a0.size : Int) ≥ 1
 ·have : decide ((1 : Int) ≤ (a0.size : Int)) = true := by simpa using h
  simp [nI, this]
 ·have h' : ¬ (1 : Int) ≤ (a0.size : Int) := h
  simp [nI, h']
theorem Ld : Fr Try.prog 70 sd_spec_l4KeyOk :=
 Dl (pat := P4) [] O6 (Dz (l := []) trivial) trivial Try.func70 (de := fun x => Hd x.1) (fun x r h => (Sn x.1).trans h) fun _ => by kernel_rfl
def Ee (b : List Chg) : Bool := Av b
def Ox : Sig := ⟨[.rd (.sl Cs)], [none], [.rd .bool], [none]⟩
noncomputable def sd_spec_ValidBatch : SD := ⟨Ox, fun x => some (((Ee x.1), ()), (()))⟩
noncomputable def ta_spec_ValidBatch : Tb := tb [(70, sd_spec_l4KeyOk)]
def pa_spec_ValidBatch : Nat → Pat × (Nat → Pat) := Jx [(5, ⟨[.sl 0 0 Cs], [(0, .lf (.d (.sl Cs))), (3, .lf (.d tI))], []⟩, [(2, p0), (1, ⟨[], [(2, .lf (.d .bool))], []⟩)])]
noncomputable def co_spec_ValidBatch_5 : Code := (At (B7 Try.f21)).getD 0 .skip
def Cg (v0 : List Chg) (v3 : Int) : Nat := ((v0.length : Int) - v3).toNat + 1
noncomputable def Ch {R : Type}  (NX : ((List Chg) × (Int) × Unit) → Option R) (X2 : (Unit) → Option R) (X1 : ((Bool) × Unit) → Option R) (v0 : List Chg) (v3 : Int) : Option R :=
 bif decide (v3 < nI v0.length) then bif decide (0 ≤ v3) then bif decide (v3 < nI v0.length) then bif !En (v0.getD v3.toNat (ByteArray.mk #[], ByteArray.mk #[], false, ())).1 then X1 (false, ()) else bif decide (0 ≤ v3) then bif decide (v3 < nI v0.length) then bif decide (nI (ByteArray.size (v0.getD v3.toNat (ByteArray.mk #[], ByteArray.mk #[], false, ())).2.1) > 100) then X1 (false, ()) else bif decide (0 ≤ v3) then bif decide (v3 < nI v0.length) then bif (v0.getD v3.toNat (ByteArray.mk #[], ByteArray.mk #[], false, ())).2.2.1 then bif decide (0 ≤ v3) then bif decide (v3 < nI v0.length) then bif !ByteArray.toList (v0.getD v3.toNat (ByteArray.mk #[], ByteArray.mk #[], false, ())).2.1 == (ByteArray.mk #[]).toList then X1 (false, ()) else NX (v0, IntKind.i64.wrap (v3 + 1), ()) else none else none else NX (v0, IntKind.i64.wrap (v3 + 1), ()) else none else none else none else none else none else none else X2 PUnit.unit
noncomputable def A1 : Nat → (List Chg) → (Int) →  Option ((Unit) ⊕ ((Bool) × Unit))
 | 0, _, _ => none
 | m + 1, v0, v3 => Ch  (fun d => A1 m d.1 d.2.1) (fun d => some (.inl (d))) (fun d => some (.inr (d))) v0 v3
noncomputable def Fh (a0 : List Chg) : Option ((((Bool) × Unit) × (Unit))) :=
 bif decide (nI a0.length < 1) then some ((false, ()), ()) else bif decide (nI a0.length > 20) then some ((false, ()), ()) else ((fun d => A1 (Cg d.1 d.2.1) d.1 d.2.1) (a0, 0, ())).bind fun val => Eb (fun d => some ((true, ()), ())) (fun d => some (d, ())) val
theorem Oy (a0 : List Chg) : Fh a0 = some (((Ee a0), ()), (())) := by
 unfold Fh Ee Av
 have tl : ByteArray.toList (ByteArray.mk #[]) = [] := by decide +kernel
 rw [Agv (nI (List.length a0))]
 show (bif M8 (a0.length : Int) 1 20 then _ else _) = _
 cases hin : M8 (a0.length : Int) 1 20 with
 | false => rfl
 | true =>
  have hlen : a0.length ≤ 20 := by have := (Mc hin).2; omega
  have hL := Ma (n := a0.length) (fun i => F3 (a0.getD i zC)) (g := fun m i => A1 m a0 i) (ok := .inl ()) (bad := .inr (false, ())) (fun m i hi => by
   show A1 (m + 1) a0 i = _
   simp only [A1, Ch]
   rw [tl, Zp hi, L9, wI (show i < 4611686018427387904 by omega), Int.toNat_natCast]
   have g1 : decide (nI (ByteArray.size (List.getD a0 i (ByteArray.mk #[], ByteArray.mk #[], false, ())).2.1) > 100) = !decide ((a0.getD i zC).2.1.size ≤ 100) := Xg _ 100
   rw [g1]
   show (bif !Fm (a0.getD i zC).1 then _ else (bif _ then _ else (bif (a0.getD i zC).2.2.1 then (bif !((a0.getD i zC).2.1.toList == []) then _ else _) else _))) = _
   unfold F3
   cases Fm (a0.getD i zC).1 <;> cases decide ((a0.getD i zC).2.1.size ≤ 100) <;> cases (a0.getD i zC).2.2.1 <;> cases ((a0.getD i zC).2.1.toList == []) <;> rfl) (fun m => by
   show A1 (m + 1) a0 (a0.length : Int) = _
   simp only [A1, Ch]
   rw [Q1]
   rfl) (Cg a0 0) 0 (by omega) (by simp [Cg, nI])
  refine bi_ hL ?_
  rw [Nat.sub_zero]
  cases (List.range' 0 a0.length).all (fun i => F3 (a0.getD i zC)) <;> rfl
noncomputable def G8 {R : Type} (k : Kt R) := (Eb (Nc (pa_spec_ValidBatch 5) (.exit 0) 2 k) (Nc (pa_spec_ValidBatch 5) .ret 1 k))
noncomputable def I2 {R : Type} : Lt R pa_spec_ValidBatch := (Hb (pat := pa_spec_ValidBatch) 5 (fun d k => (A1 (Cg d.1 d.2.1) d.1 d.2.1).bind (G8 k)) O6)
theorem Ih : Az Try.prog ta_spec_ValidBatch := Dz ⟨Ld, trivial⟩
theorem Mr {R : Type} : Bb Try.prog R 49 0 pa_spec_ValidBatch I2 co_spec_ValidBatch_5 :=
 Ec (cfg := ⟨ta_spec_ValidBatch, 0, 49, pa_spec_ValidBatch⟩) 5 [] (fun NX X d => Ch  NX (fun e => X (.inl (e))) (fun e => X (.inr (e))) d.1 d.2.1) (fun m d => A1 m d.1 d.2.1) (fun d => Cg d.1 d.2.1) G8 Ih trivial (fun f NX d => by unfold Ch; simp only [A2, A9, Au, Option.bind_assoc, Option.bind_none, Option.bind_some]) (fun _ _ _ => by kernel_rfl)
theorem Oz : Fr Try.prog 21 sd_spec_ValidBatch :=
 Dl (pat := pa_spec_ValidBatch) [co_spec_ValidBatch_5] I2 Ih ⟨Mr, trivial⟩ Try.func21 (de := fun x => Fh x.1) (fun x r h => (Oy x.1).trans h) fun _ => by kernel_rfl
def Ef (s : Stt) : Bool := Af s
def O0 : Sig := ⟨[.rd Uw], [some 1], [.rd .bool], [none]⟩
noncomputable def sd_spec_ValidState : SD := ⟨O0, fun x => some (((Ef x.1), ()), (()))⟩
noncomputable def ta_spec_ValidState : Tb := tb [(70, sd_spec_l4KeyOk)]
def pa_spec_ValidState : Nat → Pat × (Nat → Pat) := Jx [(5, ⟨[.boxSl 1 0 An], [(1, .lf (.ptr 0 0)), (3, .lf (.d tI))], [.box 30 [.d (.sl An)]]⟩, [(2, p0), (1, ⟨[], [(2, .lf (.d .bool))], []⟩)])]
noncomputable def co_spec_ValidState_5 : Code := (At (B7 Try.f55)).getD 0 .skip
def Bf (v3 : Int) (b0_0 : List Pr2) : Nat := ((b0_0.length : Int) - v3).toNat + 1
noncomputable def Ci {R : Type}  (NX : ((Int) × (List Pr2) × Unit) → Option R) (X2 : (Unit) → Option R) (X1 : ((Bool) × Unit) → Option R) (v3 : Int) (b0_0 : List Pr2) : Option R :=
 bif decide (v3 < nI b0_0.length) then bif decide (0 ≤ v3) then bif decide (v3 < nI b0_0.length) then bif !En (b0_0.getD v3.toNat (ByteArray.mk #[], ByteArray.mk #[], ())).1 then X1 (false, ()) else bif decide (0 ≤ v3) then bif decide (v3 < nI b0_0.length) then bif decide (nI (ByteArray.size (b0_0.getD v3.toNat (ByteArray.mk #[], ByteArray.mk #[], ())).2.1) > 100) then X1 (false, ()) else bif decide (v3 > 0) then bif decide (0 ≤ IntKind.i64.wrap (v3 - 1)) then bif decide (IntKind.i64.wrap (v3 - 1) < nI b0_0.length) then bif decide (0 ≤ v3) then bif decide (v3 < nI b0_0.length) then bif !Op.bytesLess (ByteArray.toList (b0_0.getD (IntKind.i64.wrap (v3 - 1)).toNat (ByteArray.mk #[], ByteArray.mk #[], ())).1) (ByteArray.toList (b0_0.getD v3.toNat (ByteArray.mk #[], ByteArray.mk #[], ())).1) then X1 (false, ()) else NX (IntKind.i64.wrap (v3 + 1), b0_0, ()) else none else none else none else none else NX (IntKind.i64.wrap (v3 + 1), b0_0, ()) else none else none else none else none else X2 PUnit.unit
noncomputable def As : Nat → (Int) → (List Pr2) →  Option ((Unit) ⊕ ((Bool) × Unit))
 | 0, _, _ => none
 | m + 1, v3, b0_0 => Ci  (fun d => As m d.1 d.2.1) (fun d => some (.inl (d))) (fun d => some (.inr (d))) v3 b0_0
noncomputable def Fi (a0 : Stt) : Option ((((Bool) × Unit) × (Unit))) :=
 bif decide (nI (List.length a0.1) > 100) then some ((false, ()), ()) else ((fun d => As (Bf d.1 d.2.1) d.1 d.2.1) (0, a0)).bind fun val => Eb (fun d => some ((true, ()), ())) (fun d => some (d, ())) val
theorem O1 (a0 : Stt) : Fi a0 = some ((Ef a0, ()), ()) := by
 unfold Fi Ef Af
 have c1 : decide (nI a0.1.length > 100) = !decide (a0.1.length ≤ 100) := Xg _ 100
 by_cases hl : a0.1.length ≤ 100
 ·have hL := Ma (n := a0.1.length) (Em a0.1) (g := fun m i => As m i a0.1) (ok := .inl ()) (bad := .inr (false, ())) (fun m i hi => by
   show As (m + 1) i a0.1 = _
   simp only [As, Ci]
   have g1 : decide (nI (ByteArray.size (List.getD a0.1 i (ByteArray.mk #[], ByteArray.mk #[], ())).2.1) > 100) = !decide (ByteArray.size (List.getD a0.1 i zP).2.1 ≤ 100) := Xg _ 100
   rw [Zp hi, L9, wI (show i < 4611686018427387904 by omega), Int.toNat_natCast, gt0, g1]
   simp only [cond_true]
   unfold Em bl
   show (bif !Fm (List.getD a0.1 i zP).1 then _ else _) = _
   cases i with
   | zero =>
    show (bif !Fm (List.getD a0.1 0 zP).1 then _ else bif !decide (ByteArray.size (List.getD a0.1 0 zP).2.1 ≤ 100) then _ else _) = _
    cases Fm (List.getD a0.1 0 zP).1 <;> cases decide (ByteArray.size (List.getD a0.1 0 zP).2.1 ≤ 100) <;> rfl
   | succ j =>
    rw [wP j (by omega), L9, Zp (show j < a0.1.length by omega)]
    show (bif !Fm (List.getD a0.1 (j + 1) zP).1 then _ else bif !decide (ByteArray.size (List.getD a0.1 (j + 1) zP).2.1 ≤ 100) then _ else bif !Op.bytesLess (ByteArray.toList (List.getD a0.1 j zP).1) (ByteArray.toList (List.getD a0.1 (j + 1) zP).1) then _ else _) = _
    rw [Nat.add_sub_cancel]
    cases Fm (List.getD a0.1 (j + 1) zP).1 <;> cases decide (ByteArray.size (List.getD a0.1 (j + 1) zP).2.1 ≤ 100) <;> cases Op.bytesLess (ByteArray.toList (List.getD a0.1 j zP).1) (ByteArray.toList (List.getD a0.1 (j + 1) zP).1) <;> rfl) (fun m => by
   show As (m + 1) (a0.1.length : Int) a0.1 = _
   simp only [As, Ci]
   rw [Q1]
   rfl) (Bf 0 a0.1) 0 (by omega) (by simp [Bf, nI])
  have hL' : As (Bf 0 a0.1) 0 a0.1 = _ := hL
  rw [c1, decide_eq_true hl]
  show (As (Bf 0 a0.1) 0 a0.1).bind _ = _
  rw [hL']
  cases (List.range' 0 (a0.1.length - 0)).all (Em a0.1) <;> rfl
 ·rw [c1, decide_eq_false hl]
  rfl
noncomputable def G9 {R : Type} (k : Kt R) := (Eb (Nc (pa_spec_ValidState 5) (.exit 0) 2 k) (Nc (pa_spec_ValidState 5) .ret 1 k))
noncomputable def I3 {R : Type} : Lt R pa_spec_ValidState := (Hb (pat := pa_spec_ValidState) 5 (fun d k => (As (Bf d.1 d.2.1) d.1 d.2.1).bind (G9 k)) O6)
theorem Ii : Az Try.prog ta_spec_ValidState := Dz ⟨Ld, trivial⟩
theorem Ms {R : Type} : Bb Try.prog R 53 0 pa_spec_ValidState I3 co_spec_ValidState_5 :=
 Ec (cfg := ⟨ta_spec_ValidState, 0, 53, pa_spec_ValidState⟩) 5 [] (fun NX X d => Ci  NX (fun e => X (.inl (e))) (fun e => X (.inr (e))) d.1 d.2.1) (fun m d => As m d.1 d.2.1) (fun d => Bf d.1 d.2.1) G9 Ii trivial (fun f NX d => by unfold Ci; simp only [A2, A9, Au, Option.bind_assoc, Option.bind_none, Option.bind_some]) (fun _ _ _ => by kernel_rfl)
theorem O2 : Fr Try.prog 55 sd_spec_ValidState :=
 Dl (pat := pa_spec_ValidState) [co_spec_ValidState_5] I3 Ii ⟨Ms, trivial⟩ Try.func55 (de := fun x => Fi x.1) (fun x r h => (O1 x.1).trans h) fun _ => by kernel_rfl
def E6 (s : Stt) : Option Stt := if s.1.length ≤ 1000000 then some (s.1, ()) else none
def Vj : Sig := ⟨[.rd Uw], [some 1], [.own 96 An], [some 1]⟩
noncomputable def sd_spec_l4Copy : SD := ⟨Vj, fun x => (E6 x.1).bind fun r => some ((r.1, ()), (()))⟩
noncomputable def Ij (a0 : Stt) : Option ((Stt × (Unit))) :=
 bif decide ((0 + List.length a0.1) * 32 ≤ 140737488355328) then some (([] ++ a0.1, ()), ()) else none
theorem Vk (a0 : Stt) r (h : E6 a0 = some r) : Ij a0 = some ((r.1, ()), (())) := by
 unfold E6 at h
 split at h
 ·rename_i hc
  cases h
  unfold Ij
  rw [decide_eq_true (show (0 + a0.1.length) * 32 ≤ 140737488355328 by omega)]
  rfl
 ·cases h
theorem Vm : Fr Try.prog 109 sd_spec_l4Copy :=
 Dl (pat := P4) [] O6 (Dz (l := []) trivial) trivial Try.func109 (de := fun x => Ij x.1) (fun x r h => M7 (Vk x.1) h) fun _ => by kernel_rfl
def D7 (s : Stt) (c : Chg) : Option Stt := if s.1.length ≤ 1000000 then some (G2 c s.1, ()) else none
def Rb : Sig := ⟨[.rd Uw, .rd Cs], [some 1, some 3], [.own 96 An], [some 1]⟩
noncomputable def sd_spec_l4Change : SD := ⟨Rb, fun x => (D7 x.1 x.2.1).bind fun r => some ((r.1, ()), (()))⟩
noncomputable def ta_spec_l4Change : Tb := tb []
def pa_spec_l4Change : Nat → Pat × (Nat → Pat) := Jx [(5, ⟨[.boxSl 2 0 An, .boxRow 4 0 96 An, .boxRow 5 0 96 An], [(2, .lf (.ptr 0 0)), (3, .lf (.ptr 1 0)), (4, .lf (.ptr 2 0)), (5, .lf (.ptr 3 0)), (6, .lf (.d .bool)), (7, .lf (.d tI))], [.box 30 [.d (.sl An)], .box 90 [.d .str, .d .str, .d .bool], .box 30 [.row 4], .box 30 [.row 5], .row 96 An, .row 96 An]⟩, [(2, ⟨[.boxRow 4 0 96 An, .boxRow 5 0 96 An], [(3, .lf (.ptr 0 0)), (4, .lf (.ptr 1 0)), (5, .lf (.ptr 2 0)), (6, .lf (.d .bool))], [.box 90 [.d .str, .d .str, .d .bool], .box 30 [.row 3], .box 30 [.row 4], .row 96 An, .row 96 An]⟩)])]
noncomputable def co_spec_l4Change_5 : Code := (At (B7 Try.f110)).getD 0 .skip
def C0 (v6 : Bool) (v7 : Int) (b0_0 : List Pr2) (b1_0 : ByteArray) (b1_1 : ByteArray) (b1_2 : Bool) (r4 : List Pr2) (r5 : List Pr2) : Nat := ((b0_0.length : Int) - v7).toNat + 1
noncomputable def C1 {R : Type}  (NX : ((Bool) × (Int) × (List Pr2) × (ByteArray) × (ByteArray) × (Bool) × (List Pr2) × (List Pr2) × Unit) → Option R) (X2 : ((Bool) × (ByteArray) × (ByteArray) × (Bool) × (List Pr2) × (List Pr2) × Unit) → Option R) (v6 : Bool) (v7 : Int) (b0_0 : List Pr2) (b1_0 : ByteArray) (b1_1 : ByteArray) (b1_2 : Bool) (r4 : List Pr2) (r5 : List Pr2) : Option R :=
 bif decide (v7 < nI b0_0.length) then bif !v6 then bif decide (0 ≤ v7) then bif decide (v7 < nI b0_0.length) then bif !(Op.bytesLess (ByteArray.toList (b0_0.getD v7.toNat (ByteArray.mk #[], ByteArray.mk #[], ())).1) b1_0.toList || ByteArray.toList (b0_0.getD v7.toNat (ByteArray.mk #[], ByteArray.mk #[], ())).1 == b1_0.toList) then bif decide ((r5.length + [(b1_0, b1_1, ())].length) * 32 ≤ 140737488355328) then bif decide (0 ≤ v7) then bif decide (v7 < nI b0_0.length) then bif !ByteArray.toList (b0_0.getD v7.toNat (ByteArray.mk #[], ByteArray.mk #[], ())).1 == b1_0.toList then bif decide (0 ≤ v7) then bif decide (v7 < nI b0_0.length) then bif decide (((r5 ++ [(b1_0, b1_1, ())]).length + [b0_0.getD v7.toNat (ByteArray.mk #[], ByteArray.mk #[], ())].length) * 32 ≤ 140737488355328) then NX (true, IntKind.i64.wrap (v7 + 1), b0_0, b1_0, b1_1, b1_2, r4, r5 ++ [(b1_0, b1_1, ())] ++ [b0_0.getD v7.toNat (ByteArray.mk #[], ByteArray.mk #[], ())], ()) else none else none else none else NX (true, IntKind.i64.wrap (v7 + 1), b0_0, b1_0, b1_1, b1_2, r4, r5 ++ [(b1_0, b1_1, ())], ()) else none else none else none else bif decide (0 ≤ v7) then bif decide (v7 < nI b0_0.length) then bif !ByteArray.toList (b0_0.getD v7.toNat (ByteArray.mk #[], ByteArray.mk #[], ())).1 == b1_0.toList then bif decide (0 ≤ v7) then bif decide (v7 < nI b0_0.length) then bif decide ((r5.length + [b0_0.getD v7.toNat (ByteArray.mk #[], ByteArray.mk #[], ())].length) * 32 ≤ 140737488355328) then NX (v6, IntKind.i64.wrap (v7 + 1), b0_0, b1_0, b1_1, b1_2, r4, r5 ++ [b0_0.getD v7.toNat (ByteArray.mk #[], ByteArray.mk #[], ())], ()) else none else none else none else NX (v6, IntKind.i64.wrap (v7 + 1), b0_0, b1_0, b1_1, b1_2, r4, r5, ()) else none else none else none else none else bif decide (0 ≤ v7) then bif decide (v7 < nI b0_0.length) then bif !ByteArray.toList (b0_0.getD v7.toNat (ByteArray.mk #[], ByteArray.mk #[], ())).1 == b1_0.toList then bif decide (0 ≤ v7) then bif decide (v7 < nI b0_0.length) then bif decide ((r5.length + [b0_0.getD v7.toNat (ByteArray.mk #[], ByteArray.mk #[], ())].length) * 32 ≤ 140737488355328) then NX (v6, IntKind.i64.wrap (v7 + 1), b0_0, b1_0, b1_1, b1_2, r4, r5 ++ [b0_0.getD v7.toNat (ByteArray.mk #[], ByteArray.mk #[], ())], ()) else none else none else none else NX (v6, IntKind.i64.wrap (v7 + 1), b0_0, b1_0, b1_1, b1_2, r4, r5, ()) else none else none else X2 (v6, b1_0, b1_1, b1_2, r4, r5, ())
noncomputable def A7 : Nat → (Bool) → (Int) → (List Pr2) → (ByteArray) → (ByteArray) → (Bool) → (List Pr2) → (List Pr2) →  Option ((Bool) × (ByteArray) × (ByteArray) × (Bool) × (List Pr2) × (List Pr2) × Unit)
 | 0, _, _, _, _, _, _, _, _ => none
 | m + 1, v6, v7, b0_0, b1_0, b1_1, b1_2, r4, r5 => C1  (fun d => A7 m d.1 d.2.1 d.2.2.1 d.2.2.2.1 d.2.2.2.2.1 d.2.2.2.2.2.1 d.2.2.2.2.2.2.1 d.2.2.2.2.2.2.2.1) (fun d => some (d)) v6 v7 b0_0 b1_0 b1_1 b1_2 r4 r5
noncomputable def Gs (a0 : Stt) (a1 : Chg) : Option ((Stt × (Unit))) :=
 ((fun d => A7 (C0 d.1 d.2.1 d.2.2.1 d.2.2.2.1 d.2.2.2.2.1 d.2.2.2.2.2.1 d.2.2.2.2.2.2.1 d.2.2.2.2.2.2.2.1) d.1 d.2.1 d.2.2.1 d.2.2.2.1 d.2.2.2.2.1 d.2.2.2.2.2.1 d.2.2.2.2.2.2.1 d.2.2.2.2.2.2.2.1) (a1.2.2.1, 0, a0.1, a1.1, a1.2.1, a1.2.2.1, [], [], ())).bind fun val => bif !val.1 then bif decide ((val.2.2.2.2.2.1.length + [(val.2.1, val.2.2.1, ())].length) * 32 ≤ 140737488355328) then some ((val.2.2.2.2.2.1 ++ [(val.2.1, val.2.2.1, ())], ()), ()) else none else some (val.2.2.2.2.2, ())
theorem Rc (a0 : Stt) (a1 : Chg) r (h : D7 a0 a1 = some r) : Gs a0 a1 = some ((r.1, ()), (())) := by
 unfold D7 at h
 split at h
 rotate_left
 ·cases h
 rename_i hlen
 cases h
 unfold Gs
 have hL := Fd (xs := a0.1) zP (fun i (s : Bool × List Pr2) => i ≤ 1000000 ∧ s.2.length ≤ 2 * i) (fun _ p s => H6 a1.1 a1.2.1 p s) (g := fun m i s => A7 m s.1 i a0.1 a1.1 a1.2.1 a1.2.2.1 [] s.2) (ok := fun s => (s.1, a1.1, a1.2.1, a1.2.2.1, [], s.2, ())) (fun m i s hi hI => by
   show A7 (m + 1) s.1 i a0.1 a1.1 a1.2.1 a1.2.2.1 [] s.2 = _
   obtain ⟨d, out⟩ := s
   obtain ⟨h1, h2⟩ := hI
   simp only at h2 ⊢
   simp only [A7, C1]
   have e1 : decide ((out.length + 1) * 32 ≤ 140737488355328) = true := decide_eq_true (by omega)
   have e2 : decide ((out.length + 1 + 1) * 32 ≤ 140737488355328) = true := decide_eq_true (by omega)
   rw [Zp hi, L9, wI (show i < 4611686018427387904 by omega), Int.toNat_natCast]
   simp only [cond_true, List.length_singleton, List.length_append, e1, e2]
   unfold H6 gtS bl
   show (bif !d then (bif !(Op.bytesLess (List.getD a0.1 i zP).1.toList a1.1.toList || (List.getD a0.1 i zP).1.toList == a1.1.toList) then _ else _) else _) = _
   cases d with
   | true =>
    simp only [Bool.not_true, Bool.false_and, cond_false]
    show (bif !((List.getD a0.1 i zP).1.toList == a1.1.toList) then _ else _) = _
    cases ((List.getD a0.1 i zP).1.toList == a1.1.toList) <;> rfl
   | false =>
    simp only [Bool.not_false, Bool.true_and, cond_true]
    cases hq : !(Op.bytesLess (List.getD a0.1 i zP).1.toList a1.1.toList || (List.getD a0.1 i zP).1.toList == a1.1.toList) with
    | true =>
     simp only [cond_true]
     show (bif !((List.getD a0.1 i zP).1.toList == a1.1.toList) then _ else _) = _
     cases ((List.getD a0.1 i zP).1.toList == a1.1.toList) <;> rfl
    | false =>
     simp only [cond_false]
     show (bif !((List.getD a0.1 i zP).1.toList == a1.1.toList) then _ else _) = _
     cases ((List.getD a0.1 i zP).1.toList == a1.1.toList) <;> rfl) (fun i s hi hI => ⟨by omega, by have := U8 a1.1 a1.2.1 (a0.1.getD i zP) s; omega⟩) (fun m s hI => by
   show A7 (m + 1) s.1 (a0.1.length : Int) a0.1 a1.1 a1.2.1 a1.2.2.1 [] s.2 = _
   simp only [A7, C1]
   rw [Q1]
   rfl) (C0 a1.2.2.1 0 a0.1 a1.1 a1.2.1 a1.2.2.1 [] []) 0 (a1.2.2.1, []) (by omega) (by simp [C0, nI]) ⟨by omega, Nat.le_refl _⟩
 have hE := Aa9 a1.1 a1.2.1 a0.1 0 (a1.2.2.1, [])
 have hB : (Ck (fun _ p s => H6 a1.1 a1.2.1 p s) 0 a0.1 (a1.2.2.1, [])).2.length ≤ 2 * a0.1.length := by
  have := Q3 zP (fun i (s : Bool × List Pr2) => s.2.length ≤ 2 * i) (fun _ p s => H6 a1.1 a1.2.1 p s) (xs := a0.1) (fun i s hi hI => by have := U8 a1.1 a1.2.1 (a0.1.getD i zP) s; omega) a0.1.length 0 (a1.2.2.1, []) (by omega) (Nat.le_refl _)
  exact this
 rw [List.drop_zero] at hL
 refine U1 hL ?_
 dsimp only
 generalize Ck (fun _ p s => H6 a1.1 a1.2.1 p s) 0 a0.1 (a1.2.2.1, []) = q at hE hB
 obtain ⟨d, out⟩ := q
 simp only at hB
 simp only [List.nil_append] at hE
 show _ = some ((Fo a1.1 a1.2.1 a1.2.2.1 a0.1, ()), ())
 rw [← hE]
 unfold j7
 have e1 : decide ((out.length + 1) * 32 ≤ 140737488355328) = true := decide_eq_true (by omega)
 cases d with
 | true => rfl
 | false =>
  simp only [Bool.not_false, cond_true, cond_false, List.length_singleton, e1]
noncomputable def Ik {R : Type} (k : Kt R) := (Nc (pa_spec_l4Change 5) (.exit 0) 2 k)
noncomputable def Le {R : Type} : Lt R pa_spec_l4Change := (Hb (pat := pa_spec_l4Change) 5 (fun d k => (A7 (C0 d.1 d.2.1 d.2.2.1 d.2.2.2.1 d.2.2.2.2.1 d.2.2.2.2.2.1 d.2.2.2.2.2.2.1 d.2.2.2.2.2.2.2.1) d.1 d.2.1 d.2.2.1 d.2.2.2.1 d.2.2.2.2.1 d.2.2.2.2.2.1 d.2.2.2.2.2.2.1 d.2.2.2.2.2.2.2.1).bind (Ik k)) O6)
theorem J5 : Az Try.prog ta_spec_l4Change := Dz trivial
theorem O3 {R : Type} : Bb Try.prog R 73 0 pa_spec_l4Change Le co_spec_l4Change_5 :=
 Ec (cfg := ⟨ta_spec_l4Change, 0, 73, pa_spec_l4Change⟩) 5 [] (fun NX X (d : (Bool) × (Int) × (List Pr2) × (ByteArray) × (ByteArray) × (Bool) × (List Pr2) × (List Pr2) × Unit) => C1  NX X d.1 d.2.1 d.2.2.1 d.2.2.2.1 d.2.2.2.2.1 d.2.2.2.2.2.1 d.2.2.2.2.2.2.1 d.2.2.2.2.2.2.2.1) (fun m d => A7 m d.1 d.2.1 d.2.2.1 d.2.2.2.1 d.2.2.2.2.1 d.2.2.2.2.2.1 d.2.2.2.2.2.2.1 d.2.2.2.2.2.2.2.1) (fun d => C0 d.1 d.2.1 d.2.2.1 d.2.2.2.1 d.2.2.2.2.1 d.2.2.2.2.2.1 d.2.2.2.2.2.2.1 d.2.2.2.2.2.2.2.1) Ik J5 trivial (fun f NX (d : (Bool) × (Int) × (List Pr2) × (ByteArray) × (ByteArray) × (Bool) × (List Pr2) × (List Pr2) × Unit) => by unfold C1; simp only [A2, A9, Au, Option.bind_assoc, Option.bind_none, Option.bind_some]) (fun _ _ _ => by kernel_rfl)
theorem Re : Fr Try.prog 110 sd_spec_l4Change :=
 Dl (pat := pa_spec_l4Change) [co_spec_l4Change_5] Le J5 ⟨O3, trivial⟩ Try.func110 (de := fun x => Gs x.1 x.2.1) (fun x r h => M7 (Rc x.1 x.2.1) h) fun _ => by kernel_rfl
def Bu (s : Stt) (b : List Chg) : Stt × Int := A6 s b
def V9 : Sig := ⟨[.rd Uw, .rd (.sl Cs)], [some 1, none], [.own 96 An, .rd tI], [some 1, none]⟩
noncomputable def sd_spec_Apply : SD := ⟨V9, fun x => some (((Bu x.1 x.2.1).1.1, (Bu x.1 x.2.1).2, ()), (()))⟩
noncomputable def ta_spec_Apply : Tb := tb [(21, sd_spec_ValidBatch), (55, sd_spec_ValidState), (109, sd_spec_l4Copy), (110, sd_spec_l4Change)]
def pa_spec_Apply : Nat → Pat × (Nat → Pat) := Jx [(6, ⟨[.sl 1 0 Cs, .boxRow 4 0 96 An, .boxRow 6 0 96 An], [(1, .lf (.d (.sl Cs))), (4, .lf (.ptr 0 0)), (6, .lf (.ptr 1 0)), (7, .lf (.d tI))], [.box 30 [.row 2], .box 30 [.row 3], .row 96 An, .row 96 An]⟩, [(2, ⟨[.boxRow 4 0 96 An, .boxRow 6 0 96 An], [(4, .lf (.ptr 0 0)), (6, .lf (.ptr 1 0))], [.box 30 [.row 2], .box 30 [.row 3], .row 96 An, .row 96 An]⟩)])]
noncomputable def co_spec_Apply_6 : Code := (At (B7 Try.f49)).getD 0 .skip
def Da (v1 : List Chg) (v7 : Int) (r2 : List Pr2) (r3 : List Pr2) : Nat := ((v1.length : Int) - v7).toNat + 1
noncomputable def D8 {R : Type}  (NX : ((List Chg) × (Int) × (List Pr2) × (List Pr2) × Unit) → Option R) (X2 : ((List Pr2) × (List Pr2) × Unit) → Option R) (v1 : List Chg) (v7 : Int) (r2 : List Pr2) (r3 : List Pr2) : Option R :=
 bif decide (v7 < nI v1.length) then bif decide (0 ≤ v7) then bif decide (v7 < nI v1.length) then ((D7 (r3, ()) (v1.getD v7.toNat (ByteArray.mk #[], ByteArray.mk #[], false, ()))).bind fun val => some (val, ())).bind fun val => NX (v1, IntKind.i64.wrap (v7 + 1), r2, val.1) else none else none else X2 (r2, r3, ())
noncomputable def Bh : Nat → (List Chg) → (Int) → (List Pr2) → (List Pr2) →  Option ((List Pr2) × (List Pr2) × Unit)
 | 0, _, _, _, _ => none
 | m + 1, v1, v7, r2, r3 => D8  (fun d => Bh m d.1 d.2.1 d.2.2.1 d.2.2.2.1) (fun d => some (d)) v1 v7 r2 r3
noncomputable def Ji (a0 : Stt) (a1 : List Chg) : Option ((((List Pr2) × (Int) × Unit) × (Unit))) :=
 bif !Ef a0 then some (([], 1, ()), ()) else bif !Ee a1 then some (([], 1, ()), ()) else ((E6 a0).bind fun val => some (val, ())).bind fun val => ((fun d => Bh (Da d.1 d.2.1 d.2.2.1 d.2.2.2.1) d.1 d.2.1 d.2.2.1 d.2.2.2.1) (a1, 0, [], val.1)).bind fun val => bif decide (nI val.2.1.length > 100) then some (([], 2, ()), ()) else some ((val.2.1, 0, ()), ())
theorem Zi (b : List Chg) (xs : List Pr2) (hb : b.length ≤ 20) (hx : xs.length ≤ 100) : Bh (Da b 0 [] xs) b 0 [] xs = some ([], C3 xs b, ()) := by
 have hL := Fd (xs := b) zC (fun i (l : List Pr2) => i ≤ 20 ∧ l.length ≤ 100 + i) (fun _ c l => G2 c l) (g := fun m i l => Bh m b i [] l) (ok := fun l => ([], l, ())) (fun m i l hi hI => by
   show Bh (m + 1) b i [] l = _
   simp only [Bh, D8]
   rw [Zp hi, L9, wI (show i < 4611686018427387904 by omega), Int.toNat_natCast]
   simp only [cond_true]
   have e1 : D7 (l, ()) ((List.getD b i zC).1, (List.getD b i zC).2.1, (List.getD b i zC).2.2.1, ()) = some (G2 (List.getD b i zC) l, ()) := if_pos (by show l.length ≤ 1000000; omega)
   refine (congrArg (fun y => Option.bind (Option.bind y _) _) e1).trans ?_
   rfl) (fun i l hi hI => ⟨by omega, by have := Afk (b.getD i zC) l; omega⟩) (fun m l hI => by
   show Bh (m + 1) b (b.length : Int) [] l = _
   simp only [Bh, D8]
   rw [Q1]
   rfl) (Da b 0 [] xs) 0 xs (by omega) (by simp [Da, nI]) ⟨by omega, by omega⟩
 rw [List.drop_zero] at hL
 exact hL
theorem Wa (a0 : Stt) (a1 : List Chg) : Ji a0 a1 = some (((Bu a0 a1).1.1, (Bu a0 a1).2, ()), (())) := by
 unfold Ji Bu A6
 show (bif !Af a0 then _ else bif !Av a1 then _ else _) = _
 cases hv : Af a0 with
 | false => rfl
 | true =>
  cases hb : Av a1 with
  | false => rfl
  | true =>
   simp only [Bool.not_true, cond_false]
   have hl := Cb hv
   have hb2 := Mc (Hc hb).1
   have e1 : E6 (a0.1, ()) = some (a0.1, ()) := if_pos (Nat.le_trans hl (by decide))
   rw [e1]
   simp only [Option.bind_some]
   refine U1 (Zi a1 a0.1 (by omega) hl) ?_
   dsimp only
   by_cases q : (C3 a0.1 a1).length > 100
   ·rw [decide_eq_true (show nI (C3 a0.1 a1).length > 100 by simp only [nI]; omega), decide_eq_true q]
    rfl
   ·rw [decide_eq_false (show ¬ nI (C3 a0.1 a1).length > 100 by simp only [nI]; omega), decide_eq_false q]
    rfl
noncomputable def Lg {R : Type} (k : Kt R) := (Nc (pa_spec_Apply 6) (.exit 0) 2 k)
noncomputable def Qd {R : Type} : Lt R pa_spec_Apply := (Hb (pat := pa_spec_Apply) 6 (fun d k => (Bh (Da d.1 d.2.1 d.2.2.1 d.2.2.2.1) d.1 d.2.1 d.2.2.1 d.2.2.2.1).bind (Lg k)) O6)
theorem Nt : Az Try.prog ta_spec_Apply := Dz ⟨Oz, O2, Vm, Re, trivial⟩
theorem So {R : Type} : Bb Try.prog R 37 0 pa_spec_Apply Qd co_spec_Apply_6 :=
 Ec (cfg := ⟨ta_spec_Apply, 0, 37, pa_spec_Apply⟩) 6 [] (fun NX X d => D8  NX X d.1 d.2.1 d.2.2.1 d.2.2.2.1) (fun m d => Bh m d.1 d.2.1 d.2.2.1 d.2.2.2.1) (fun d => Da d.1 d.2.1 d.2.2.1 d.2.2.2.1) Lg Nt trivial (fun f NX d => by unfold D8; simp only [A2, A9, Au, Option.bind_assoc, Option.bind_none, Option.bind_some]) (fun _ _ _ => by kernel_rfl)
theorem Nu : Fr Try.prog 49 sd_spec_Apply :=
 Dl (pat := pa_spec_Apply) [co_spec_Apply_6] Qd Nt ⟨So, trivial⟩ Try.func49 (de := fun x => Ji x.1 x.2.1) (fun x r h => (Wa x.1 x.2.1).trans h) fun _ => by kernel_rfl
def Db (v4 : Int) (b0 : (List Int) × Int × Unit) (r3 r4 : List Pr2) : Nat := v4.toNat + 1
def Dt (v7 v8 : Int) (b0 : (List Int) × Int × Unit) (r3 r4 : List Pr2) : Nat := (v7 - (r4.length : Int)).toNat + 1
def Bx (v7 v8 : Int) (b0 : (List Int) × Int × Unit) (r3 r4 : List Pr2) : Nat := (v7 - (r4.length : Int)).toNat + 1
def Wb : Sig := ⟨[.bx 154 (.pair (.sl (.int .u8)) (.pair tI .unit))], [none], [.own 96 An], [some 1]⟩
noncomputable def ta_spec_l4Any : Tb := tb [(49, sd_spec_Apply), (63, sd_spec_l4DrawBatch), (64, sd_spec_l1Rd__pick), (73, sd_spec_l1Many), (117, sd_spec_l1DrawText)]
def pa_spec_l4Any : Nat → Pat × (Nat → Pat) := Jx [(6, ⟨[.boxRow 2 0 96 An, .boxRow 3 0 96 An], [(0, .lf (.ptr 0 0)), (2, .lf (.ptr 1 0)), (3, .lf (.ptr 2 0)), (4, .lf (.d tI))], [.box 154 [.d (.pair (.sl (.int .u8)) (.pair tI .unit))], .box 30 [.row 3], .box 30 [.row 4], .row 96 An, .row 96 An]⟩, [(2, ⟨[.boxRow 2 0 96 An, .boxRow 3 0 96 An], [(0, .lf (.ptr 0 0)), (2, .lf (.ptr 1 0)), (3, .lf (.ptr 2 0))], [.box 154 [.d (.pair (.sl (.int .u8)) (.pair tI .unit))], .box 30 [.row 3], .box 30 [.row 4], .row 96 An, .row 96 An]⟩)]), (14, ⟨[.boxRow 2 0 96 An, .boxRow 3 0 96 An], [(0, .lf (.ptr 0 0)), (2, .lf (.ptr 1 0)), (3, .lf (.ptr 2 0)), (7, .lf (.d tI)), (8, .lf (.d tI))], [.box 154 [.d (.pair (.sl (.int .u8)) (.pair tI .unit))], .box 30 [.row 3], .box 30 [.row 4], .row 96 An, .row 96 An]⟩, [(4, ⟨[.boxRow 2 0 96 An, .boxRow 3 0 96 An], [(0, .lf (.ptr 0 0)), (2, .lf (.ptr 1 0)), (3, .lf (.ptr 2 0))], [.box 154 [.d (.pair (.sl (.int .u8)) (.pair tI .unit))], .box 30 [.row 3], .box 30 [.row 4], .row 96 An, .row 96 An]⟩)]), (24, ⟨[.boxRow 2 0 96 An, .boxRow 3 0 96 An], [(2, .lf (.ptr 1 0)), (3, .lf (.ptr 2 0)), (10, .lf (.d tI)), (11, .lf (.d tI))], [.box 154 [.d (.pair (.sl (.int .u8)) (.pair tI .unit))], .box 30 [.row 3], .box 30 [.row 4], .row 96 An, .row 96 An]⟩, [(7, ⟨[.boxRow 2 0 96 An, .boxRow 3 0 96 An], [(2, .lf (.ptr 1 0)), (3, .lf (.ptr 2 0))], [.box 154 [.d (.pair (.sl (.int .u8)) (.pair tI .unit))], .box 30 [.row 3], .box 30 [.row 4], .row 96 An, .row 96 An]⟩)])]
noncomputable def co_spec_l4Any_6 : Code := (At (B7 Try.f106)).getD 0 .skip
noncomputable def co_spec_l4Any_14 : Code := (At (B7 Try.f106)).getD 1 .skip
noncomputable def co_spec_l4Any_24 : Code := (At (B7 Try.f106)).getD 2 .skip
noncomputable def Ey {R : Type}  (NX : ((Int) × (Int) × ((List Int) × Int × Unit) × (List Pr2) × (List Pr2) × Unit) → Option R) (X7 : (((List Int) × Int × Unit) × (List Pr2) × (List Pr2) × Unit) → Option R) (v10 : Int) (v11 : Int) (b0 : (List Int) × Int × Unit) (r3 : List Pr2) (r4 : List Pr2) : Option R :=
 bif decide (nI r4.length < v10) then bif decide ((r4.length + [(ByteArray.mk #[122, 122] ++ strOfNums [IntKind.u8.wrap (IntKind.i64.wrap (48 + IntKind.i64.wrap (v11.tdiv 10))), IntKind.u8.wrap (IntKind.i64.wrap (48 + v11.tmod 10))], ByteArray.mk #[], ())].length) * 32 ≤ 140737488355328) then NX (v10, IntKind.i64.wrap (v11 + 1), b0, r3, r4 ++ [(ByteArray.mk #[122, 122] ++ strOfNums [IntKind.u8.wrap (IntKind.i64.wrap (48 + IntKind.i64.wrap (v11.tdiv 10))), IntKind.u8.wrap (IntKind.i64.wrap (48 + v11.tmod 10))], ByteArray.mk #[], ())], ()) else none else X7 (b0, r3, r4, ())
noncomputable def Bk : Nat → (Int) → (Int) → ((List Int) × Int × Unit) → (List Pr2) → (List Pr2) →  Option (((List Int) × Int × Unit) × (List Pr2) × (List Pr2) × Unit)
 | 0, _, _, _, _, _ => none
 | m + 1, v10, v11, b0, r3, r4 => Ey  (fun d => Bk m d.1 d.2.1 d.2.2.1 d.2.2.2.1 d.2.2.2.2.1) (fun d => some (d)) v10 v11 b0 r3 r4
noncomputable def Ez {R : Type}  (NX : ((Int) × (Int) × ((List Int) × Int × Unit) × (List Pr2) × (List Pr2) × Unit) → Option R) (X4 : (((List Int) × Int × Unit) × (List Pr2) × (List Pr2) × Unit) → Option R) (v7 : Int) (v8 : Int) (b0 : (List Int) × Int × Unit) (r3 : List Pr2) (r4 : List Pr2) : Option R :=
 bif decide (nI r4.length < v7) then (m_spec_l1DrawText b0).bind fun val => bif decide ((r4.length + [(ByteArray.mk #[122] ++ strOfNums [IntKind.u8.wrap (IntKind.i64.wrap (48 + IntKind.i64.wrap (v8.tdiv 10))), IntKind.u8.wrap (IntKind.i64.wrap (48 + v8.tmod 10))], val.1)].length) * 32 ≤ 140737488355328) then bif decide (0 ≤ IntKind.i64.wrap (nI (r4 ++ [(ByteArray.mk #[122] ++ strOfNums [IntKind.u8.wrap (IntKind.i64.wrap (48 + IntKind.i64.wrap (v8.tdiv 10))), IntKind.u8.wrap (IntKind.i64.wrap (48 + v8.tmod 10))], val.1)]).length - 1)) then bif decide (IntKind.i64.wrap (nI (r4 ++ [(ByteArray.mk #[122] ++ strOfNums [IntKind.u8.wrap (IntKind.i64.wrap (48 + IntKind.i64.wrap (v8.tdiv 10))), IntKind.u8.wrap (IntKind.i64.wrap (48 + v8.tmod 10))], val.1)]).length - 1) < nI (r4 ++ [(ByteArray.mk #[122] ++ strOfNums [IntKind.u8.wrap (IntKind.i64.wrap (48 + IntKind.i64.wrap (v8.tdiv 10))), IntKind.u8.wrap (IntKind.i64.wrap (48 + v8.tmod 10))], val.1)]).length) then bif decide (nI (ByteArray.size ((r4 ++ [(ByteArray.mk #[122] ++ strOfNums [IntKind.u8.wrap (IntKind.i64.wrap (48 + IntKind.i64.wrap (v8.tdiv 10))), IntKind.u8.wrap (IntKind.i64.wrap (48 + v8.tmod 10))], val.1)]).getD (IntKind.i64.wrap (nI (r4 ++ [(ByteArray.mk #[122] ++ strOfNums [IntKind.u8.wrap (IntKind.i64.wrap (48 + IntKind.i64.wrap (v8.tdiv 10))), IntKind.u8.wrap (IntKind.i64.wrap (48 + v8.tmod 10))], val.1)]).length - 1)).toNat (ByteArray.mk #[], ByteArray.mk #[], ())).2.1) > 100) then bif decide (0 ≤ IntKind.i64.wrap (nI (r4 ++ [(ByteArray.mk #[122] ++ strOfNums [IntKind.u8.wrap (IntKind.i64.wrap (48 + IntKind.i64.wrap (v8.tdiv 10))), IntKind.u8.wrap (IntKind.i64.wrap (48 + v8.tmod 10))], val.1)]).length - 1)) then bif decide (IntKind.i64.wrap (nI (r4 ++ [(ByteArray.mk #[122] ++ strOfNums [IntKind.u8.wrap (IntKind.i64.wrap (48 + IntKind.i64.wrap (v8.tdiv 10))), IntKind.u8.wrap (IntKind.i64.wrap (48 + v8.tmod 10))], val.1)]).length - 1) < nI (r4 ++ [(ByteArray.mk #[122] ++ strOfNums [IntKind.u8.wrap (IntKind.i64.wrap (48 + IntKind.i64.wrap (v8.tdiv 10))), IntKind.u8.wrap (IntKind.i64.wrap (48 + v8.tmod 10))], val.1)]).length) then bif decide ((IntKind.i64.wrap (nI (r4 ++ [(ByteArray.mk #[122] ++ strOfNums [IntKind.u8.wrap (IntKind.i64.wrap (48 + IntKind.i64.wrap (v8.tdiv 10))), IntKind.u8.wrap (IntKind.i64.wrap (48 + v8.tmod 10))], val.1)]).length - 1)).toNat < (r4 ++ [(ByteArray.mk #[122] ++ strOfNums [IntKind.u8.wrap (IntKind.i64.wrap (48 + IntKind.i64.wrap (v8.tdiv 10))), IntKind.u8.wrap (IntKind.i64.wrap (48 + v8.tmod 10))], val.1)]).length) then NX (v7, IntKind.i64.wrap (v8 + 1), val.2.1, r3, (r4 ++ [(ByteArray.mk #[122] ++ strOfNums [IntKind.u8.wrap (IntKind.i64.wrap (48 + IntKind.i64.wrap (v8.tdiv 10))), IntKind.u8.wrap (IntKind.i64.wrap (48 + v8.tmod 10))], val.1)]).set (IntKind.i64.wrap (nI (r4 ++ [(ByteArray.mk #[122] ++ strOfNums [IntKind.u8.wrap (IntKind.i64.wrap (48 + IntKind.i64.wrap (v8.tdiv 10))), IntKind.u8.wrap (IntKind.i64.wrap (48 + v8.tmod 10))], val.1)]).length - 1)).toNat (((r4 ++ [(ByteArray.mk #[122] ++ strOfNums [IntKind.u8.wrap (IntKind.i64.wrap (48 + IntKind.i64.wrap (v8.tdiv 10))), IntKind.u8.wrap (IntKind.i64.wrap (48 + v8.tmod 10))], val.1)]).getD (IntKind.i64.wrap (nI (r4 ++ [(ByteArray.mk #[122] ++ strOfNums [IntKind.u8.wrap (IntKind.i64.wrap (48 + IntKind.i64.wrap (v8.tdiv 10))), IntKind.u8.wrap (IntKind.i64.wrap (48 + v8.tmod 10))], val.1)]).length - 1)).toNat (ByteArray.mk #[], ByteArray.mk #[], ())).1, ByteArray.mk #[], ()), ()) else none else none else none else NX (v7, IntKind.i64.wrap (v8 + 1), val.2.1, r3, r4 ++ [(ByteArray.mk #[122] ++ strOfNums [IntKind.u8.wrap (IntKind.i64.wrap (48 + IntKind.i64.wrap (v8.tdiv 10))), IntKind.u8.wrap (IntKind.i64.wrap (48 + v8.tmod 10))], val.1)], ()) else none else none else none else X4 (b0, r3, r4, ())
noncomputable def By : Nat → (Int) → (Int) → ((List Int) × Int × Unit) → (List Pr2) → (List Pr2) →  Option (((List Int) × Int × Unit) × (List Pr2) × (List Pr2) × Unit)
 | 0, _, _, _, _, _ => none
 | m + 1, v7, v8, b0, r3, r4 => Ez  (fun d => By m d.1 d.2.1 d.2.2.1 d.2.2.2.1 d.2.2.2.2.1) (fun d => some (d)) v7 v8 b0 r3 r4
noncomputable def E9 {R : Type}  (NX : ((Int) × ((List Int) × Int × Unit) × (List Pr2) × (List Pr2) × Unit) → Option R) (X2 : (((List Int) × Int × Unit) × (List Pr2) × (List Pr2) × Unit) → Option R) (v4 : Int) (b0 : (List Int) × Int × Unit) (r3 : List Pr2) (r4 : List Pr2) : Option R :=
 bif decide (v4 > 0) then (m_spec_l4DrawBatch b0).bind fun val => bif (Bu (r4, ()) val.1.1).2 == 0 then NX (IntKind.i64.wrap (v4 - 1), val.2.1, r3, (Bu (r4, ()) val.1.1).1) else NX (IntKind.i64.wrap (v4 - 1), val.2.1, r3, r4, ()) else X2 (b0, r3, r4, ())
noncomputable def B5 : Nat → (Int) → ((List Int) × Int × Unit) → (List Pr2) → (List Pr2) →  Option (((List Int) × Int × Unit) × (List Pr2) × (List Pr2) × Unit)
 | 0, _, _, _, _ => none
 | m + 1, v4, b0, r3, r4 => E9  (fun d => B5 m d.1 d.2.1 d.2.2.1 d.2.2.2.1) (fun d => some (d)) v4 b0 r3 r4
noncomputable def Gw (a0 : (List Int) × Int × Unit) : Option ((Stt × (((List Int) × Int × Unit) × Unit))) :=
 ((Aa a0 4).bind fun val => some ((val.1, ()), val.2, ())).bind fun val => ((Aa val.2.1 4).bind fun val => some ((val.1, ()), val.2, ())).bind fun val_1 => bif val_1.1.1 == 0 then ((fun d => B5 (Db d.1 d.2.1 d.2.2.1 d.2.2.2.1) d.1 d.2.1 d.2.2.1 d.2.2.2.1) (10, val_1.2.1, [], [], ())).bind fun val => ((Aa val.1 12).bind fun val => some ((val.1, ()), val.2, ())).bind fun val_2 => bif val_2.1.1 == 0 then ((Aa val_2.2.1 3).bind fun val => some ((val.1, ()), val.2, ())).bind fun val_3 => ((fun d => By (Dt d.1 d.2.1 d.2.2.1 d.2.2.2.1 d.2.2.2.2.1) d.1 d.2.1 d.2.2.1 d.2.2.2.1 d.2.2.2.2.1) (IntKind.i64.wrap (100 - val_3.1.1), 0, val_3.2.1, val.2)).bind fun val => ((Aa val.1 8).bind fun val => some ((val.1, ()), val.2, ())).bind fun val_4 => bif val_4.1.1 == 0 then bif decide (nI val.2.2.1.length > 0) then ((Aa val_4.2.1 (nI val.2.2.1.length)).bind fun val => some ((val.1, ()), val.2, ())).bind fun val_5 => ((Aa val_5.2.1 4).bind fun val => some ((val.1, ()), val.2, ())).bind fun val_6 => bif val_6.1.1 == 0 then ((Aa val_6.2.1 2).bind fun val => some ((val.1, ()), val.2, ())).bind fun val_7 => (m_spec_l1Many (ByteArray.mk #[122]) (IntKind.i64.wrap (20 + val_7.1.1))).bind fun val_8 => ((Aa val_7.2.1 3).bind fun val => some ((val.1, ()), val.2, ())).bind fun val_9 => bif decide (0 ≤ val_9.1.1) then bif decide (val_9.1.1 < nI [ByteArray.mk #[], ByteArray.mk #[97], val_8.1.1].length) then bif decide (0 ≤ val_5.1.1) then bif decide (val_5.1.1 < nI val.2.2.1.length) then bif decide (Int.toNat val_5.1.1 < val.2.2.1.length) then some ((val.2.2.1.set (Int.toNat val_5.1.1) ([ByteArray.mk #[], ByteArray.mk #[97], val_8.1.1].getD (Int.toNat val_9.1.1) (ByteArray.mk #[]), (val.2.2.1.getD (Int.toNat val_5.1.1) (ByteArray.mk #[], ByteArray.mk #[], ())).2), ()), val_9.2) else none else none else none else none else none else bif val_6.1.1 == 1 then ((Aa val_6.2.1 2).bind fun val => some ((val.1, ()), val.2, ())).bind fun val_7 => (m_spec_l1Many (ByteArray.mk #[118]) (IntKind.i64.wrap (100 + val_7.1.1))).bind fun val_8 => bif decide (0 ≤ val_5.1.1) then bif decide (val_5.1.1 < nI val.2.2.1.length) then bif decide (Int.toNat val_5.1.1 < val.2.2.1.length) then some ((val.2.2.1.set (Int.toNat val_5.1.1) ((val.2.2.1.getD (Int.toNat val_5.1.1) (ByteArray.mk #[], ByteArray.mk #[], ())).1, val_8.1), ()), val_7.2) else none else none else none else bif val_6.1.1 == 2 then bif decide (0 ≤ val_5.1.1) then bif decide (val_5.1.1 < nI val.2.2.1.length) then bif decide ((val.2.2.1.length + [val.2.2.1.getD (Int.toNat val_5.1.1) (ByteArray.mk #[], ByteArray.mk #[], ())].length) * 32 ≤ 140737488355328) then some ((val.2.2.1 ++ [val.2.2.1.getD (Int.toNat val_5.1.1) (ByteArray.mk #[], ByteArray.mk #[], ())], ()), val_6.2) else none else none else none else ((fun d => Bk (Bx d.1 d.2.1 d.2.2.1 d.2.2.2.1 d.2.2.2.2.1) d.1 d.2.1 d.2.2.1 d.2.2.2.1 d.2.2.2.2.1) (101, 0, val_6.2.1, val.2)).bind fun val => some (val.2.2, val.1, ()) else some (val.2.2, val_4.2) else some (val.2.2, val_4.2) else ((Aa val_2.2.1 8).bind fun val => some ((val.1, ()), val.2, ())).bind fun val_3 => bif val_3.1.1 == 0 then bif decide (nI val.2.2.1.length > 0) then ((Aa val_3.2.1 (nI val.2.2.1.length)).bind fun val => some ((val.1, ()), val.2, ())).bind fun val_4 => ((Aa val_4.2.1 4).bind fun val => some ((val.1, ()), val.2, ())).bind fun val_5 => bif val_5.1.1 == 0 then ((Aa val_5.2.1 2).bind fun val => some ((val.1, ()), val.2, ())).bind fun val_6 => (m_spec_l1Many (ByteArray.mk #[122]) (IntKind.i64.wrap (20 + val_6.1.1))).bind fun val_7 => ((Aa val_6.2.1 3).bind fun val => some ((val.1, ()), val.2, ())).bind fun val_8 => bif decide (0 ≤ val_8.1.1) then bif decide (val_8.1.1 < nI [ByteArray.mk #[], ByteArray.mk #[97], val_7.1.1].length) then bif decide (0 ≤ val_4.1.1) then bif decide (val_4.1.1 < nI val.2.2.1.length) then bif decide (Int.toNat val_4.1.1 < val.2.2.1.length) then some ((val.2.2.1.set (Int.toNat val_4.1.1) ([ByteArray.mk #[], ByteArray.mk #[97], val_7.1.1].getD (Int.toNat val_8.1.1) (ByteArray.mk #[]), (val.2.2.1.getD (Int.toNat val_4.1.1) (ByteArray.mk #[], ByteArray.mk #[], ())).2), ()), val_8.2) else none else none else none else none else none else bif val_5.1.1 == 1 then ((Aa val_5.2.1 2).bind fun val => some ((val.1, ()), val.2, ())).bind fun val_6 => (m_spec_l1Many (ByteArray.mk #[118]) (IntKind.i64.wrap (100 + val_6.1.1))).bind fun val_7 => bif decide (0 ≤ val_4.1.1) then bif decide (val_4.1.1 < nI val.2.2.1.length) then bif decide (Int.toNat val_4.1.1 < val.2.2.1.length) then some ((val.2.2.1.set (Int.toNat val_4.1.1) ((val.2.2.1.getD (Int.toNat val_4.1.1) (ByteArray.mk #[], ByteArray.mk #[], ())).1, val_7.1), ()), val_6.2) else none else none else none else bif val_5.1.1 == 2 then bif decide (0 ≤ val_4.1.1) then bif decide (val_4.1.1 < nI val.2.2.1.length) then bif decide ((val.2.2.1.length + [val.2.2.1.getD (Int.toNat val_4.1.1) (ByteArray.mk #[], ByteArray.mk #[], ())].length) * 32 ≤ 140737488355328) then some ((val.2.2.1 ++ [val.2.2.1.getD (Int.toNat val_4.1.1) (ByteArray.mk #[], ByteArray.mk #[], ())], ()), val_5.2) else none else none else none else ((fun d => Bk (Bx d.1 d.2.1 d.2.2.1 d.2.2.2.1 d.2.2.2.2.1) d.1 d.2.1 d.2.2.1 d.2.2.2.1 d.2.2.2.2.1) (101, 0, val_5.2.1, val.2)).bind fun val => some (val.2.2, val.1, ()) else some (val.2.2, val_3.2) else some (val.2.2, val_3.2) else ((fun d => B5 (Db d.1 d.2.1 d.2.2.1 d.2.2.2.1) d.1 d.2.1 d.2.2.1 d.2.2.2.1) (val.1.1, val_1.2.1, [], [], ())).bind fun val => ((Aa val.1 12).bind fun val => some ((val.1, ()), val.2, ())).bind fun val_2 => bif val_2.1.1 == 0 then ((Aa val_2.2.1 3).bind fun val => some ((val.1, ()), val.2, ())).bind fun val_3 => ((fun d => By (Dt d.1 d.2.1 d.2.2.1 d.2.2.2.1 d.2.2.2.2.1) d.1 d.2.1 d.2.2.1 d.2.2.2.1 d.2.2.2.2.1) (IntKind.i64.wrap (100 - val_3.1.1), 0, val_3.2.1, val.2)).bind fun val => ((Aa val.1 8).bind fun val => some ((val.1, ()), val.2, ())).bind fun val_4 => bif val_4.1.1 == 0 then bif decide (nI val.2.2.1.length > 0) then ((Aa val_4.2.1 (nI val.2.2.1.length)).bind fun val => some ((val.1, ()), val.2, ())).bind fun val_5 => ((Aa val_5.2.1 4).bind fun val => some ((val.1, ()), val.2, ())).bind fun val_6 => bif val_6.1.1 == 0 then ((Aa val_6.2.1 2).bind fun val => some ((val.1, ()), val.2, ())).bind fun val_7 => (m_spec_l1Many (ByteArray.mk #[122]) (IntKind.i64.wrap (20 + val_7.1.1))).bind fun val_8 => ((Aa val_7.2.1 3).bind fun val => some ((val.1, ()), val.2, ())).bind fun val_9 => bif decide (0 ≤ val_9.1.1) then bif decide (val_9.1.1 < nI [ByteArray.mk #[], ByteArray.mk #[97], val_8.1.1].length) then bif decide (0 ≤ val_5.1.1) then bif decide (val_5.1.1 < nI val.2.2.1.length) then bif decide (Int.toNat val_5.1.1 < val.2.2.1.length) then some ((val.2.2.1.set (Int.toNat val_5.1.1) ([ByteArray.mk #[], ByteArray.mk #[97], val_8.1.1].getD (Int.toNat val_9.1.1) (ByteArray.mk #[]), (val.2.2.1.getD (Int.toNat val_5.1.1) (ByteArray.mk #[], ByteArray.mk #[], ())).2), ()), val_9.2) else none else none else none else none else none else bif val_6.1.1 == 1 then ((Aa val_6.2.1 2).bind fun val => some ((val.1, ()), val.2, ())).bind fun val_7 => (m_spec_l1Many (ByteArray.mk #[118]) (IntKind.i64.wrap (100 + val_7.1.1))).bind fun val_8 => bif decide (0 ≤ val_5.1.1) then bif decide (val_5.1.1 < nI val.2.2.1.length) then bif decide (Int.toNat val_5.1.1 < val.2.2.1.length) then some ((val.2.2.1.set (Int.toNat val_5.1.1) ((val.2.2.1.getD (Int.toNat val_5.1.1) (ByteArray.mk #[], ByteArray.mk #[], ())).1, val_8.1), ()), val_7.2) else none else none else none else bif val_6.1.1 == 2 then bif decide (0 ≤ val_5.1.1) then bif decide (val_5.1.1 < nI val.2.2.1.length) then bif decide ((val.2.2.1.length + [val.2.2.1.getD (Int.toNat val_5.1.1) (ByteArray.mk #[], ByteArray.mk #[], ())].length) * 32 ≤ 140737488355328) then some ((val.2.2.1 ++ [val.2.2.1.getD (Int.toNat val_5.1.1) (ByteArray.mk #[], ByteArray.mk #[], ())], ()), val_6.2) else none else none else none else ((fun d => Bk (Bx d.1 d.2.1 d.2.2.1 d.2.2.2.1 d.2.2.2.2.1) d.1 d.2.1 d.2.2.1 d.2.2.2.1 d.2.2.2.2.1) (101, 0, val_6.2.1, val.2)).bind fun val => some (val.2.2, val.1, ()) else some (val.2.2, val_4.2) else some (val.2.2, val_4.2) else ((Aa val_2.2.1 8).bind fun val => some ((val.1, ()), val.2, ())).bind fun val_3 => bif val_3.1.1 == 0 then bif decide (nI val.2.2.1.length > 0) then ((Aa val_3.2.1 (nI val.2.2.1.length)).bind fun val => some ((val.1, ()), val.2, ())).bind fun val_4 => ((Aa val_4.2.1 4).bind fun val => some ((val.1, ()), val.2, ())).bind fun val_5 => bif val_5.1.1 == 0 then ((Aa val_5.2.1 2).bind fun val => some ((val.1, ()), val.2, ())).bind fun val_6 => (m_spec_l1Many (ByteArray.mk #[122]) (IntKind.i64.wrap (20 + val_6.1.1))).bind fun val_7 => ((Aa val_6.2.1 3).bind fun val => some ((val.1, ()), val.2, ())).bind fun val_8 => bif decide (0 ≤ val_8.1.1) then bif decide (val_8.1.1 < nI [ByteArray.mk #[], ByteArray.mk #[97], val_7.1.1].length) then bif decide (0 ≤ val_4.1.1) then bif decide (val_4.1.1 < nI val.2.2.1.length) then bif decide (Int.toNat val_4.1.1 < val.2.2.1.length) then some ((val.2.2.1.set (Int.toNat val_4.1.1) ([ByteArray.mk #[], ByteArray.mk #[97], val_7.1.1].getD (Int.toNat val_8.1.1) (ByteArray.mk #[]), (val.2.2.1.getD (Int.toNat val_4.1.1) (ByteArray.mk #[], ByteArray.mk #[], ())).2), ()), val_8.2) else none else none else none else none else none else bif val_5.1.1 == 1 then ((Aa val_5.2.1 2).bind fun val => some ((val.1, ()), val.2, ())).bind fun val_6 => (m_spec_l1Many (ByteArray.mk #[118]) (IntKind.i64.wrap (100 + val_6.1.1))).bind fun val_7 => bif decide (0 ≤ val_4.1.1) then bif decide (val_4.1.1 < nI val.2.2.1.length) then bif decide (Int.toNat val_4.1.1 < val.2.2.1.length) then some ((val.2.2.1.set (Int.toNat val_4.1.1) ((val.2.2.1.getD (Int.toNat val_4.1.1) (ByteArray.mk #[], ByteArray.mk #[], ())).1, val_7.1), ()), val_6.2) else none else none else none else bif val_5.1.1 == 2 then bif decide (0 ≤ val_4.1.1) then bif decide (val_4.1.1 < nI val.2.2.1.length) then bif decide ((val.2.2.1.length + [val.2.2.1.getD (Int.toNat val_4.1.1) (ByteArray.mk #[], ByteArray.mk #[], ())].length) * 32 ≤ 140737488355328) then some ((val.2.2.1 ++ [val.2.2.1.getD (Int.toNat val_4.1.1) (ByteArray.mk #[], ByteArray.mk #[], ())], ()), val_5.2) else none else none else none else ((fun d => Bk (Bx d.1 d.2.1 d.2.2.1 d.2.2.2.1 d.2.2.2.2.1) d.1 d.2.1 d.2.2.1 d.2.2.2.1 d.2.2.2.2.1) (101, 0, val_5.2.1, val.2)).bind fun val => some (val.2.2, val.1, ()) else some (val.2.2, val_3.2) else some (val.2.2, val_3.2)
theorem Nv : ∃ f, f = @Gw := ⟨_, rfl⟩
noncomputable def m_spec_l4Any := Classical.choose Nv
theorem Nw : @m_spec_l4Any = @Gw := Classical.choose_spec Nv
noncomputable def sd_spec_l4Any : SD := ⟨Wb, fun x => m_spec_l4Any x.1⟩
theorem Rf (x : List Pr2) : ∀ (m n k : Nat) (r : Rd) (l : List Pr2), n < m → n ≤ 10 → Af (l, ()) = true → Kc k r → k + 400 * n < 1099511627776 → Ah (B5 m n r x l) fun q => q.2.2.1.length ≤ 100 ∧ Kc (k + 400 * n) q.1
 | 0, n, k, r, l, h, _, _, _, _ => by omega
 | m + 1, n, k, r, l, h, hn, hv, hr, hk => by
  simp only [B5, E9]
  refine Ah.cond (fun c => ?_) fun c => Ah.some ⟨Cb hv, hr.mono (by omega)⟩
  have hp : 0 < n := by simpa using c
  have ew : IntKind.i64.wrap ((n : Int) - 1) = ((n - 1 : Nat) : Int) := by rw [Ao (by omega) (by omega)]; omega
  rw [ew]
  refine Ah.bind (l3 hr (by omega)) fun q hq => ?_
  have e1 : Bu (l, ()) q.1.1 = A6 (l, ()) q.1.1 := rfl
  rw [e1]
  have go : ∀ l', Af (l', ()) = true → Ah (B5 m ((n - 1 : Nat) : Int) q.2.1 x l') fun q => q.2.2.1.length ≤ 100 ∧ Kc (k + 400 * n) q.1 := fun l' hv' =>
   (Rf x m (n - 1) (k + 400) q.2.1 l' (by omega) (by omega) hv' hq.2 (by omega)).mono fun z hz => by
    rw [show k + 400 + 400 * (n - 1) = k + 400 * n by omega] at hz
    exact hz
  exact Ah.cond (fun _ => go _ (Mg (l, ()) q.1.1)) fun _ => go _ hv
theorem Vn (x : List Pr2) (n : Nat) (hn : n ≤ 100) : ∀ (m k : Nat) (i : Int) (r : Rd) (l : List Pr2), n - l.length < m → l.length ≤ 100 → Kc k r → k + 10 * (n - l.length) < 1099511627776 → Ah (By m n i r x l) fun q => q.2.2.1.length ≤ 100 ∧ Kc (k + 10 * (n - l.length)) q.1
 | 0, k, i, r, l, h, _, _, _ => by omega
 | m + 1, k, i, r, l, h, hl, hr, hk => by
  simp only [By, Ez]
  refine Ah.cond (fun c => ?_) fun c => Ah.some ⟨hl, hr.mono (by omega)⟩
  have c : l.length < n := by have := of_decide_eq_true c; simp only [nI] at this; omega
  refine Ah.bind (Abg hr (by omega)) fun q hq => ?_
  generalize (ByteArray.mk #[122] ++ strOfNums [IntKind.u8.wrap (IntKind.i64.wrap (48 + IntKind.i64.wrap (i.tdiv 10))), IntKind.u8.wrap (IntKind.i64.wrap (48 + i.tmod 10))]) = key
  have e1 : IntKind.i64.wrap (nI (l ++ [(key, q.1)]).length - 1) = (l.length : Int) := by rw [List.length_append, List.length_singleton]; exact w6 _ (by omega)
  rw [e1]
  have go : ∀ l' : List Pr2, l'.length = l.length + 1 → Ah (By m n (IntKind.i64.wrap (i + 1)) q.2.1 x l') fun q => q.2.2.1.length ≤ 100 ∧ Kc (k + 10 * (n - l.length)) q.1 := fun l' hl' =>
   (Vn x n hn m (k + 10) _ q.2.1 l' (by omega) (by omega) hq.2 (by omega)).mono fun z hz => by
    rw [show k + 10 + 10 * (n - l'.length) = k + 10 * (n - l.length) by omega] at hz
    exact hz
  have hlen : (l ++ [(key, q.1)]).length = l.length + 1 := by rw [List.length_append, List.length_singleton]
  have d1 : decide (0 ≤ (l.length : Int)) = true := decide_eq_true (by omega)
  have d2 : decide ((l.length : Int) < nI (l ++ [(key, q.1)]).length) = true := decide_eq_true (by rw [hlen]; simp only [nI]; omega)
  have d3 : decide ((l.length : Int).toNat < (l ++ [(key, q.1)]).length) = true := decide_eq_true (by rw [hlen]; omega)
  refine Ah.go (decide_eq_true (by simp only [List.length_singleton]; omega)) (Ah.go d1 (Ah.go d2 (Ah.cond (fun _ => Ah.go d1 (Ah.go d2 (Ah.go d3 (go _ ?_)))) fun _ => go _ hlen)))
  rw [List.length_set, hlen]
theorem O4 (x : List Pr2) (r : Rd) : ∀ (m : Nat) (i : Int) (l : List Pr2), 101 - l.length < m → l.length ≤ 101 → Ah (Bk m 101 i r x l) fun q => q.2.2.1.length ≤ 101 ∧ q.1 = r
 | 0, i, l, h, _ => by omega
 | m + 1, i, l, h, hl => by
  simp only [Bk, Ey]
  refine Ah.cond (fun c => ?_) fun c => Ah.some ⟨hl, rfl⟩
  have c : l.length < 101 := by have := of_decide_eq_true c; simp only [nI] at this; omega
  refine Ah.go (decide_eq_true (by simp only [List.length_singleton]; omega)) ?_
  exact O4 x r m _ _ (by rw [List.length_append, List.length_singleton]; omega) (by rw [List.length_append, List.length_singleton]; omega)
theorem Agx {k : Nat} {r : Rd} (h : Kc k r) (hk : k + 6000 < 1099511627776) : Ah (m_spec_l4Any r) fun q => q.1.1.length ≤ 101 ∧ Kc (k + 6000) q.2.1 := by
 rw [Nw]
 unfold Gw
 refine Aw h (by omega) (by omega) fun v r1 v0 v1 h1 => ?_
 dsimp only
 refine Aw h1 (by omega) (by omega) fun w r2 w0 w1 h2 => ?_
 dsimp only
 obtain ⟨n, rfl⟩ : ∃ n : Nat, v = (n : Int) := ⟨v.toNat, by omega⟩
 refine Ah.cond (fun _ => Ah.bind (Rf [] _ 10 (k + 2) r2 [] (by simp only [Db]; omega) (by omega) rfl (h2.mono (by omega)) (by omega)) fun q hq => ?_) fun _ => Ah.bind (Rf [] _ n (k + 2) r2 [] (by simp only [Db]; omega) (by omega) rfl (h2.mono (by omega)) (by omega)) fun q hq => ?_
 all_goals
  obtain ⟨r3, x, l, ⟨⟩⟩ := q
  obtain ⟨hl, h3⟩ := hq
  replace h3 : Kc (k + 4002) r3 := h3.mono (by omega)
  replace hl : l.length ≤ 100 := hl
  dsimp only
  refine Aw h3 (by omega) (by omega) fun v2 r4 a0 a1 h4 => ?_
  dsimp only
  refine Ah.cond (fun _ => ?_) fun _ => ?_
  ·refine Aw h4 (by omega) (by omega) fun v3 r5 b0 b1 h5 => ?_
   dsimp only
   have ew : IntKind.i64.wrap (100 - v3) = ((100 - v3).toNat : Int) := by rw [Ao (by omega) (by omega)]; omega
   rw [ew]
   refine Ah.bind (Vn x (100 - v3).toNat (by omega) _ (k + 4004) 0 r5 l (by simp only [Dt]; omega) hl (h5.mono (by omega)) (by omega)) fun q4 hq4 => ?_
   obtain ⟨r6, x, l2, ⟨⟩⟩ := q4
   obtain ⟨hl2, h6⟩ := hq4
   replace h6 : Kc (k + 5004) r6 := h6.mono (by omega)
   replace hl2 : l2.length ≤ 100 := hl2
   dsimp only
   refine Aw h6 (by omega) (by omega) fun v4 rb b0 b1 hb => ?_
   dsimp only
   refine Ah.cond (fun _ => Ah.cond (fun c => ?_) fun _ => Ah.some ⟨by show List.length l2 ≤ 101; omega, hb.mono (by omega)⟩) fun _ => Ah.some ⟨by show List.length l2 ≤ 101; omega, hb.mono (by omega)⟩
   have hn : 0 < List.length l2 := by have := of_decide_eq_true c; simp only [nI] at this; omega
   refine Aw hb (by omega) (by simp only [nI]; omega) fun i rc c0 c1 hc => ?_
   dsimp only
   refine Aw hc (by omega) (by omega) fun j rd d0 d1 hd => ?_
   dsimp only
   have e0 : decide (0 ≤ i) = true := decide_eq_true c0
   have e1 : decide (i < nI (List.length l2)) = true := decide_eq_true c1
   have e2 : decide (i.toNat < List.length l2) = true := decide_eq_true (by simp only [nI] at c1; omega)
   have so : ∀ z : Pr2, (List.set l2 i.toNat z).length ≤ 101 := fun z => by rw [List.length_set]; omega
   refine Ah.cond (fun _ => ?_) fun _ => Ah.cond (fun _ => ?_) fun _ => Ah.cond (fun _ => ?_) fun _ => ?_
   ·refine Aw hd (by omega) (by omega) fun y re f0 f1 he => ?_
    dsimp only
    rw [Ao (n := 20 + y) (by omega) (by omega)]
    refine Ah.bind (K5 (ByteArray.mk #[122]) (20 + y) (by omega) (by omega) (by decide)) fun q3 hq3 => ?_
    refine Aw he (by omega) (by omega) fun z rg g0 g1 hg => ?_
    dsimp only
    exact Ah.go (decide_eq_true g0) (Ah.go (decide_eq_true g1) (Ah.go e0 (Ah.go e1 (Ah.go e2 (Ah.some ⟨so _, hg.mono (by omega)⟩)))))
   ·refine Aw hd (by omega) (by omega) fun y re f0 f1 he => ?_
    dsimp only
    rw [Ao (n := 100 + y) (by omega) (by omega)]
    refine Ah.bind (K5 (ByteArray.mk #[118]) (100 + y) (by omega) (by omega) (by decide)) fun q3 hq3 => ?_
    exact Ah.go e0 (Ah.go e1 (Ah.go e2 (Ah.some ⟨so _, he.mono (by omega)⟩)))
   ·exact Ah.go e0 (Ah.go e1 (Ah.go (decide_eq_true (by simp only [List.length_singleton]; omega)) (Ah.some ⟨by show List.length (_ ++ [_]) ≤ 101; rw [List.length_append, List.length_singleton]; omega, hd.mono (by omega)⟩)))
   ·refine Ah.bind (O4 x rd _ 0 l2 (by simp only [Bx]; omega) (by omega)) fun q5 hq5 => Ah.some ⟨hq5.1, ?_⟩
    show Kc (k + 6000) q5.1
    rw [hq5.2]
    exact hd.mono (by omega)
  ·have h6 : Kc (k + 5004) r4 := h4.mono (by omega)
   try dsimp only
   refine Aw h6 (by omega) (by omega) fun v4 rb b0 b1 hb => ?_
   dsimp only
   refine Ah.cond (fun _ => Ah.cond (fun c => ?_) fun _ => Ah.some ⟨by show List.length l ≤ 101; omega, hb.mono (by omega)⟩) fun _ => Ah.some ⟨by show List.length l ≤ 101; omega, hb.mono (by omega)⟩
   have hn : 0 < List.length l := by have := of_decide_eq_true c; simp only [nI] at this; omega
   refine Aw hb (by omega) (by simp only [nI]; omega) fun i rc c0 c1 hc => ?_
   dsimp only
   refine Aw hc (by omega) (by omega) fun j rd d0 d1 hd => ?_
   dsimp only
   have e0 : decide (0 ≤ i) = true := decide_eq_true c0
   have e1 : decide (i < nI (List.length l)) = true := decide_eq_true c1
   have e2 : decide (i.toNat < List.length l) = true := decide_eq_true (by simp only [nI] at c1; omega)
   have so : ∀ z : Pr2, (List.set l i.toNat z).length ≤ 101 := fun z => by rw [List.length_set]; omega
   refine Ah.cond (fun _ => ?_) fun _ => Ah.cond (fun _ => ?_) fun _ => Ah.cond (fun _ => ?_) fun _ => ?_
   ·refine Aw hd (by omega) (by omega) fun y re f0 f1 he => ?_
    dsimp only
    rw [Ao (n := 20 + y) (by omega) (by omega)]
    refine Ah.bind (K5 (ByteArray.mk #[122]) (20 + y) (by omega) (by omega) (by decide)) fun q3 hq3 => ?_
    refine Aw he (by omega) (by omega) fun z rg g0 g1 hg => ?_
    dsimp only
    exact Ah.go (decide_eq_true g0) (Ah.go (decide_eq_true g1) (Ah.go e0 (Ah.go e1 (Ah.go e2 (Ah.some ⟨so _, hg.mono (by omega)⟩)))))
   ·refine Aw hd (by omega) (by omega) fun y re f0 f1 he => ?_
    dsimp only
    rw [Ao (n := 100 + y) (by omega) (by omega)]
    refine Ah.bind (K5 (ByteArray.mk #[118]) (100 + y) (by omega) (by omega) (by decide)) fun q3 hq3 => ?_
    exact Ah.go e0 (Ah.go e1 (Ah.go e2 (Ah.some ⟨so _, he.mono (by omega)⟩)))
   ·exact Ah.go e0 (Ah.go e1 (Ah.go (decide_eq_true (by simp only [List.length_singleton]; omega)) (Ah.some ⟨by show List.length (_ ++ [_]) ≤ 101; rw [List.length_append, List.length_singleton]; omega, hd.mono (by omega)⟩)))
   ·refine Ah.bind (O4 x rd _ 0 l (by simp only [Bx]; omega) (by omega)) fun q5 hq5 => Ah.some ⟨hq5.1, ?_⟩
    show Kc (k + 6000) q5.1
    rw [hq5.2]
    exact hd.mono (by omega)
noncomputable def Lh {R : Type} (k : Kt R) := (Nc (pa_spec_l4Any 6) (.exit 0) 2 k)
noncomputable def J6 {R : Type} (k : Kt R) := (Nc (pa_spec_l4Any 14) (.exit 2) 4 k)
noncomputable def J7 {R : Type} (k : Kt R) := (Nc (pa_spec_l4Any 24) (.exit 5) 7 k)
noncomputable def Hq {R : Type} : Lt R pa_spec_l4Any := (Hb (pat := pa_spec_l4Any) 6 (fun d k => (B5 (Db d.1 d.2.1 d.2.2.1 d.2.2.2.1) d.1 d.2.1 d.2.2.1 d.2.2.2.1).bind (Lh k)) (Hb (pat := pa_spec_l4Any) 14 (fun d k => (By (Dt d.1 d.2.1 d.2.2.1 d.2.2.2.1 d.2.2.2.2.1) d.1 d.2.1 d.2.2.1 d.2.2.2.1 d.2.2.2.2.1).bind (J6 k)) (Hb (pat := pa_spec_l4Any) 24 (fun d k => (Bk (Bx d.1 d.2.1 d.2.2.1 d.2.2.2.1 d.2.2.2.2.1) d.1 d.2.1 d.2.2.1 d.2.2.2.1 d.2.2.2.2.1).bind (J7 k)) O6)))
theorem Gy : Az Try.prog ta_spec_l4Any := Dz ⟨Nu, Hi, Cz, Ib, If, trivial⟩
theorem Rg {R : Type} : Bb Try.prog R 163 1 pa_spec_l4Any Hq co_spec_l4Any_24 :=
 Ec (cfg := ⟨ta_spec_l4Any, 1, 163, pa_spec_l4Any⟩) 24 [] (fun NX X d => Ey  NX X d.1 d.2.1 d.2.2.1 d.2.2.2.1 d.2.2.2.2.1) (fun m d => Bk m d.1 d.2.1 d.2.2.1 d.2.2.2.1 d.2.2.2.2.1) (fun d => Bx d.1 d.2.1 d.2.2.1 d.2.2.2.1 d.2.2.2.2.1) J7 Gy trivial (fun f NX d => by unfold Ey; simp only [A2, A9, Au, Option.bind_assoc, Option.bind_none, Option.bind_some]) (fun _ _ _ => by kernel_rfl)
theorem Rh {R : Type} : Bb Try.prog R 163 1 pa_spec_l4Any Hq co_spec_l4Any_14 :=
 Ec (cfg := ⟨ta_spec_l4Any, 1, 163, pa_spec_l4Any⟩) 14 [] (fun NX X d => Ez  NX X d.1 d.2.1 d.2.2.1 d.2.2.2.1 d.2.2.2.2.1) (fun m d => By m d.1 d.2.1 d.2.2.1 d.2.2.2.1 d.2.2.2.2.1) (fun d => Dt d.1 d.2.1 d.2.2.1 d.2.2.2.1 d.2.2.2.2.1) J6 Gy trivial (fun f NX d => by unfold Ez; simp only [A2, A9, Au, Option.bind_assoc, Option.bind_none, Option.bind_some]) (fun _ _ _ => by kernel_rfl)
theorem Sp {R : Type} : Bb Try.prog R 163 1 pa_spec_l4Any Hq co_spec_l4Any_6 :=
 Ec (cfg := ⟨ta_spec_l4Any, 1, 163, pa_spec_l4Any⟩) 6 [] (fun NX X d => E9  NX X d.1 d.2.1 d.2.2.1 d.2.2.2.1) (fun m d => B5 m d.1 d.2.1 d.2.2.1 d.2.2.2.1) (fun d => Db d.1 d.2.1 d.2.2.1 d.2.2.2.1) Lh Gy trivial (fun f NX d => by unfold E9; simp only [A2, A9, Au, Option.bind_assoc, Option.bind_none, Option.bind_some]) (fun _ _ _ => by kernel_rfl)
theorem Wc : Fr Try.prog 106 sd_spec_l4Any :=
 Dl (pat := pa_spec_l4Any) [co_spec_l4Any_6, co_spec_l4Any_14, co_spec_l4Any_24] Hq Gy ⟨Sp, Rh, Rg, trivial⟩ Try.func106 (de := fun x => Gw x.1) (fun x r h => by have q : m_spec_l4Any x.1 = some r := h; rw [Nw] at q; exact q) fun _ => by kernel_rfl
def Qe : Sig := ⟨[.rd (.sl (.int .u8))], [none], [.own 96 An, .own 90 Cs], [some 1, none]⟩
noncomputable def Eg (a0 : List Int) : Option ((((List Pr2) × (List Chg) × Unit) × (Unit))) :=
 (m_spec_l1Open a0).bind fun val => (m_spec_l4Any val.1.1).bind fun val => (m_spec_l4DrawBatch val.2.1).bind fun val_1 => ((Aa val_1.2.1 8).bind fun val => some ((val.1, ()), val.2, ())).bind fun val_2 => bif val_2.1.1 == 0 then (m_spec_l4SpoilBatch val_2.2.1 val_1.1.1).bind fun val_3 => some ((val.1.1, val_3.1), ()) else some ((val.1.1, val_1.1), ())
theorem I4 : ∃ f, f = @Eg := ⟨_, rfl⟩
noncomputable def m_spec_DrawApply := Classical.choose I4
theorem I5 : @m_spec_DrawApply = @Eg := Classical.choose_spec I4
noncomputable def sd_spec_DrawApply : SD := ⟨Qe, fun x => m_spec_DrawApply x.1⟩
theorem Aek (b : List Int) (h : Nq (.sl (.int .u8)) b) : Ah (m_spec_DrawApply b) fun q => q.1.1.length ≤ 101 ∧ q.1.2.1.length ≤ 21 := by
 rw [I5]
 unfold Eg
 refine Ah.bind (Afp b h) fun q hq => ?_
 refine Ah.bind (Agx hq (by omega)) fun q2 hq2 => ?_
 refine Ah.bind (l3 hq2.2 (by omega)) fun q3 hq3 => ?_
 refine Aw hq3.2 (by omega) (by omega) fun v r1 v0 v1 h1 => ?_
 dsimp only
 refine Ah.cond (fun _ => ?_) fun _ => Ah.some ⟨hq2.1, Nat.le_trans hq3.1.2.1 (by decide)⟩
 exact Ah.bind (Aej h1 (by omega) hq3.1.2.1 hq3.1.2.2) fun q4 hq4 => Ah.some ⟨hq2.1, hq4.1.1⟩
theorem Qf : Fr Try.prog 47 sd_spec_DrawApply :=
 Dl (pat := P4) [] O6 (Dz (l := [(62, sd_spec_l1Open), (63, sd_spec_l4DrawBatch), (64, sd_spec_l1Rd__pick), (65, sd_spec_l4SpoilBatch), (106, sd_spec_l4Any)]) ⟨Ve, Hi, Cz, Mq, Wc, trivial⟩) trivial Try.func47 (de := fun x => Eg x.1) (fun x r h => by have q : m_spec_DrawApply x.1 = some r := h; rw [I5] at q; exact q) fun _ => by kernel_rfl
def Ba (s : Stt) (b : List Chg) : Stt × Int := A6 s b
def Wd : Sig := ⟨[.rd Uw, .rd (.sl Cs)], [some 1, none], [.own 96 An, .rd tI], [some 1, none]⟩
noncomputable def sd_impl_Apply : SD := ⟨Wd, fun x => some (((Ba x.1 x.2.1).1.1, (Ba x.1 x.2.1).2, ()), (()))⟩
noncomputable def Gz : Tb := ⟨tbF [(53, sd_impl_ValidState), (66, sd_impl_ValidBatch)], fun _ => none, none, none, some (107, 108, 30, 28, 96)⟩
def pa_impl_Apply : Nat → Pat × (Nat → Pat) := Jx [(6, ⟨[.sl 1 0 Cs, .sl 25 0 An, .boxRow 4 0 96 An], [(1, .lf (.d (.sl Cs))), (4, .lf (.ptr 0 0)), (6, .lf (.row 1)), (25, .lf (.d (.sl An))), (26, .lf (.d tI)), (27, .lf (.d tI))], [.box 30 [.row 2], .map .str, .row 96 An]⟩, [(2, ⟨[.sl 1 0 Cs, .boxRow 4 0 96 An], [(1, .lf (.d (.sl Cs))), (4, .lf (.ptr 0 0)), (6, .lf (.row 1))], [.box 30 [.row 2], .map .str, .row 96 An]⟩)]), (11, ⟨[.sl 37 0 Cs, .boxRow 4 0 96 An], [(4, .lf (.ptr 0 0)), (6, .lf (.row 1)), (37, .lf (.d (.sl Cs))), (38, .lf (.d tI)), (39, .lf (.d tI))], [.box 30 [.row 2], .map .str, .row 96 An]⟩, [(4, ⟨[.boxRow 4 0 96 An], [(4, .lf (.ptr 0 0)), (6, .lf (.row 1))], [.box 30 [.row 2], .map .str, .row 96 An]⟩)]), (21, ⟨[.boxRow 4 0 96 An, .boxRow 11 0 96 An], [(4, .lf (.ptr 0 0)), (11, .lf (.ptr 1 0)), (59, .lf (.row 2))], [.box 30 [.row 3], .box 30 [.row 4], .iter .str, .row 96 An, .row 96 An]⟩, [(6, ⟨[.boxRow 4 0 96 An, .boxRow 11 0 96 An], [(4, .lf (.ptr 0 0)), (11, .lf (.ptr 1 0))], [.box 30 [.row 2], .box 30 [.row 3], .row 96 An, .row 96 An]⟩)])]
noncomputable def co_impl_Apply_6 : Code := (At (B7 Try.f48)).getD 0 .skip
noncomputable def co_impl_Apply_11 : Code := (At (B7 Try.f48)).getD 1 .skip
noncomputable def co_impl_Apply_21 : Code := (At (B7 Try.f48)).getD 2 .skip
noncomputable def E0 (i2 : List (ByteArray × ByteArray)) (l2 : List (ByteArray × ByteArray)) (c2 : Option (ByteArray × ByteArray)) (r3 : List Pr2) (r4 : List Pr2) (e0 : ByteArray) (e1 : ByteArray) (e2 : List (ByteArray × ByteArray)) : Option ((List (ByteArray × ByteArray)) × (List (ByteArray × ByteArray)) × (Option (ByteArray × ByteArray)) × (List Pr2) × (List Pr2) × Unit) :=
 bif decide ((r4.length + [(e0, e1, ())].length) * 32 ≤ 140737488355328) then some (i2, e2, some (e0, e1), r3, r4 ++ [(e0, e1, ())], ()) else none
noncomputable def J8 (i2 : List (ByteArray × ByteArray)) (l2 : List (ByteArray × ByteArray)) (c2 : Option (ByteArray × ByteArray)) (r3 : List Pr2) (r4 : List Pr2) : Option ((List Pr2) × (List Pr2) × Unit) :=
 some (r3, r4, ())
noncomputable def Gt {R : Type} (i2 : List (ByteArray × ByteArray)) (l2 : List (ByteArray × ByteArray)) (c2 : Option (ByteArray × ByteArray)) (r3 : List Pr2) (r4 : List Pr2) (kk : ((List Pr2) × (List Pr2) × Unit) → Option R) : Option R := Ab1 (fun d : ((List (ByteArray × ByteArray)) × (List (ByteArray × ByteArray)) × (Option (ByteArray × ByteArray)) × (List Pr2) × (List Pr2) × Unit) => d.2.1) (fun d e l => E0 d.1 d.2.1 d.2.2.1 d.2.2.2.1 d.2.2.2.2.1 e.1 e.2 l) (fun d => (J8 d.1 d.2.1 d.2.2.1 d.2.2.2.1 d.2.2.2.2.1).bind kk) (i2, l2, c2, r3, r4, ())
def Cv (v37 : List Chg) (v38 : Int) (v39 : Int) (m1 : List (ByteArray × ByteArray)) (r2 : List Pr2) : Nat := (v38 - v39).toNat + 1
noncomputable def Du {R : Type}  (NX : ((List Chg) × (Int) × (Int) × (List (ByteArray × ByteArray)) × (List Pr2) × Unit) → Option R) (X4 : ((List (ByteArray × ByteArray)) × (List Pr2) × Unit) → Option R) (v37 : List Chg) (v38 : Int) (v39 : Int) (m1 : List (ByteArray × ByteArray)) (r2 : List Pr2) : Option R :=
 bif decide (v39 < v38) then bif decide (0 ≤ v39) then bif decide (v39 < nI v37.length) then bif (v37.getD v39.toNat (ByteArray.mk #[], ByteArray.mk #[], false, ())).2.2.1 then NX (v37, v38, IntKind.i64.wrap (v39 + 1), Ls (v37.getD v39.toNat (ByteArray.mk #[], ByteArray.mk #[], false, ())).1 m1, r2, ()) else NX (v37, v38, IntKind.i64.wrap (v39 + 1), Hz (v37.getD v39.toNat (ByteArray.mk #[], ByteArray.mk #[], false, ())).1 (v37.getD v39.toNat (ByteArray.mk #[], ByteArray.mk #[], false, ())).2.1 m1, r2, ()) else none else none else X4 (m1, r2, ())
noncomputable def A8 : Nat → (List Chg) → (Int) → (Int) → (List (ByteArray × ByteArray)) → (List Pr2) →  Option ((List (ByteArray × ByteArray)) × (List Pr2) × Unit)
 | 0, _, _, _, _, _ => none
 | m + 1, v37, v38, v39, m1, r2 => Du  (fun d => A8 m d.1 d.2.1 d.2.2.1 d.2.2.2.1 d.2.2.2.2.1) (fun d => some (d)) v37 v38 v39 m1 r2
def Dc (v1 : List Chg) (v25 : List Pr2) (v26 : Int) (v27 : Int) (m1 : List (ByteArray × ByteArray)) (r2 : List Pr2) : Nat := (v26 - v27).toNat + 1
noncomputable def D9 {R : Type}  (NX : ((List Chg) × (List Pr2) × (Int) × (Int) × (List (ByteArray × ByteArray)) × (List Pr2) × Unit) → Option R) (X2 : ((List Chg) × (List (ByteArray × ByteArray)) × (List Pr2) × Unit) → Option R) (v1 : List Chg) (v25 : List Pr2) (v26 : Int) (v27 : Int) (m1 : List (ByteArray × ByteArray)) (r2 : List Pr2) : Option R :=
 bif decide (v27 < v26) then bif decide (0 ≤ v27) then bif decide (v27 < nI v25.length) then NX (v1, v25, v26, IntKind.i64.wrap (v27 + 1), Hz (v25.getD v27.toNat (ByteArray.mk #[], ByteArray.mk #[], ())).1 (v25.getD v27.toNat (ByteArray.mk #[], ByteArray.mk #[], ())).2.1 m1, r2, ()) else none else none else X2 (v1, m1, r2, ())
noncomputable def Bi : Nat → (List Chg) → (List Pr2) → (Int) → (Int) → (List (ByteArray × ByteArray)) → (List Pr2) →  Option ((List Chg) × (List (ByteArray × ByteArray)) × (List Pr2) × Unit)
 | 0, _, _, _, _, _, _ => none
 | m + 1, v1, v25, v26, v27, m1, r2 => D9  (fun d => Bi m d.1 d.2.1 d.2.2.1 d.2.2.2.1 d.2.2.2.2.1 d.2.2.2.2.2.1) (fun d => some (d)) v1 v25 v26 v27 m1 r2
noncomputable def Jj (a0 : Stt) (a1 : List Chg) : Option ((((List Pr2) × (Int) × Unit) × (Unit))) :=
 bif !B0 a0 then some (([], 1, ()), ()) else bif !Df a1 then some (([], 1, ()), ()) else ((fun d => Bi (Dc d.1 d.2.1 d.2.2.1 d.2.2.2.1 d.2.2.2.2.1 d.2.2.2.2.2.1) d.1 d.2.1 d.2.2.1 d.2.2.2.1 d.2.2.2.2.1 d.2.2.2.2.2.1) (a1, a0.1, nI (List.length a0.1), 0, [], [], ())).bind fun val => ((fun d => A8 (Cv d.1 d.2.1 d.2.2.1 d.2.2.2.1 d.2.2.2.2.1) d.1 d.2.1 d.2.2.1 d.2.2.2.1 d.2.2.2.2.1) (val.1, nI (List.length val.1), 0, val.2)).bind fun val => bif decide (nI val.1.length > 100) then some (([], 2, ()), ()) else (fun d kk => Gt d.1 d.2.1 d.2.2.1 d.2.2.2.1 d.2.2.2.2.1 kk) (val.1, val.1, none, val.2.1, [], ()) fun d => bif Bs d.2.1 then bif decide (d.2.1.length ≤ 1000) then some ((List.foldr Sg [] d.2.1, 0, ()), ()) else none else none
theorem l4 (v1 : List Chg) (xs : List Pr2) (hx : xs.length ≤ 100) : Bi (Dc v1 xs (nI xs.length) 0 [] []) v1 xs (nI xs.length) 0 [] [] = some (v1, U6 xs, [], ()) := by
 have hL := Fd (xs := xs) zP (fun _ _ => True) (fun _ p m => Hz p.1 p.2.1 m) (g := fun m i M => Bi m v1 xs (nI xs.length) i M []) (ok := fun M => (v1, M, [], ())) (fun m i M hi _ => by
   show Bi (m + 1) v1 xs (nI xs.length) i M [] = _
   simp only [Bi, D9]
   rw [Zp hi, L9, wI (show i < 4611686018427387904 by omega), Int.toNat_natCast]
   rfl) (fun _ _ _ _ => trivial) (fun m M _ => by
   show Bi (m + 1) v1 xs (nI xs.length) (xs.length : Int) M [] = _
   simp only [Bi, D9]
   rw [Q1]
   rfl) (Dc v1 xs (nI xs.length) 0 [] []) 0 [] (by omega) (by simp [Dc, nI]) trivial
 rw [List.drop_zero] at hL
 exact hL
theorem Zj (b : List Chg) (m0 : Mp) (hb : b.length ≤ 20) : A8 (Cv b (nI b.length) 0 m0 []) b (nI b.length) 0 m0 [] = some (Ck (fun _ c m => R9 c m) 0 b m0, [], ()) := by
 have hL := Fd (xs := b) zC (fun _ _ => True) (fun _ c m => R9 c m) (g := fun m i M => A8 m b (nI b.length) i M []) (ok := fun M => (M, [], ())) (fun m i M hi _ => by
   show A8 (m + 1) b (nI b.length) i M [] = _
   simp only [A8, Du]
   rw [Zp hi, L9, wI (show i < 4611686018427387904 by omega), Int.toNat_natCast]
   simp only [cond_true]
   unfold R9
   show (bif (List.getD b i zC).2.2.1 then _ else _) = _
   cases (List.getD b i zC).2.2.1 <;> rfl) (fun _ _ _ _ => trivial) (fun m M _ => by
   show A8 (m + 1) b (nI b.length) (b.length : Int) M [] = _
   simp only [A8, Du]
   rw [Q1]
   rfl) (Cv b (nI b.length) 0 m0 []) 0 m0 (by omega) (by simp [Cv, nI]) trivial
 rw [List.drop_zero] at hL
 exact hL
theorem We (a0 : Stt) (a1 : List Chg) : Jj a0 a1 = some (((Ba a0 a1).1.1, (Ba a0 a1).2, ()), (())) := by
 unfold Jj Ba A6
 show (bif !Af a0 then _ else bif !Av a1 then _ else _) = _
 cases hv : Af a0 with
 | false => rfl
 | true =>
  cases hb : Av a1 with
  | false => rfl
  | true =>
   simp only [Bool.not_true, cond_false]
   have hl := Cb hv
   have hb2 := Mc (Hc hb).1
   refine U1 (l4 a1 a0.1 hl) ?_
   dsimp only
   refine U1 (Zj a1 (U6 a0.1) (by omega)) ?_
   dsimp only
   have hM : Nd (Ck (fun _ c m => R9 c m) 0 a1 (U6 a0.1)) (C3 a0.1 a1) := (Nd.init (Jz hv)).fold
   have hlen := hM.len
   generalize Ck (fun _ c m => R9 c m) 0 a1 (U6 a0.1) = M at hM hlen
   by_cases q : M.length > 100
   ·rw [decide_eq_true (show nI M.length > 100 by simp only [nI]; omega), decide_eq_true (show (C3 a0.1 a1).length > 100 by omega)]
    rfl
   ·rw [decide_eq_false (show ¬ nI M.length > 100 by simp only [nI]; omega), decide_eq_false (show ¬ (C3 a0.1 a1).length > 100 by omega)]
    simp only [cond_false]
    unfold Gt
    refine Afc (m := M.length + 1) ?_
    refine Aea M (C3 a0.1 a1) hM (by omega) (fun l c r => (M, l, c, [], r, ())) (fun _ _ _ => rfl) (fun l c r e l' hr => ?_) (fun c r h1 h2 h3 => ?_) M.length M none [] rfl (List.Perm.refl _)
    ·show E0 M l c [] r e.1 e.2 l' = _
     unfold E0
     rw [List.length_singleton, decide_eq_true (show (r.length + 1) * 32 ≤ 140737488355328 by omega)]
     rfl
    ·show (bif Bs r then bif decide (r.length ≤ 1000) then some ((Fy r, 0, ()), ()) else none else none) = _
     rw [h1, decide_eq_true h2, h3]
     rfl
noncomputable def Li {R : Type} (k : Kt R) := (Nc (pa_impl_Apply 6) (.exit 0) 2 k)
noncomputable def J9 {R : Type} (k : Kt R) := (Nc (pa_impl_Apply 11) (.exit 2) 4 k)
noncomputable def Ri {R : Type} (k : Kt R) := (Nc (pa_impl_Apply 21) (.exit 4) 6 k)
noncomputable def Hr {R : Type} : Lt R pa_impl_Apply := (Hb (pat := pa_impl_Apply) 6 (fun d k => (Bi (Dc d.1 d.2.1 d.2.2.1 d.2.2.2.1 d.2.2.2.2.1 d.2.2.2.2.2.1) d.1 d.2.1 d.2.2.1 d.2.2.2.1 d.2.2.2.2.1 d.2.2.2.2.2.1).bind (Li k)) (Hb (pat := pa_impl_Apply) 11 (fun d k => (A8 (Cv d.1 d.2.1 d.2.2.1 d.2.2.2.1 d.2.2.2.2.1) d.1 d.2.1 d.2.2.1 d.2.2.2.1 d.2.2.2.2.1).bind (J9 k)) (Hb (pat := pa_impl_Apply) 21 (fun d k => Gt d.1 d.2.1 d.2.2.1 d.2.2.2.1 d.2.2.2.2.1 (Ri k)) O6)))
theorem G0 : Az Try.prog Gz where
 sd := Za (l := [(53, sd_impl_ValidState), (66, sd_impl_ValidBatch)]) ⟨D1, Ia, trivial⟩
 inl := fun f fn h => by cases h
 cc := fun f BT h => by cases h
 st := fun f BT e h => by cases h
 srt := fun fs fc BT U e h => by cases h; exact ⟨⟨_, Try.func107, by kernel_rfl, by kernel_rfl⟩, Acf⟩
theorem Rj {R : Type} : Bb Try.prog R 79 0 pa_impl_Apply Hr co_impl_Apply_21 :=
 Adr (cfg := ⟨Gz, 0, 79, pa_impl_Apply⟩) (key := 21) (it := .tmp 59) (sl := 60) (ii := 2) (xid := 4) (t := .str) (by kernel_rfl) (by kernel_rfl) G0 rfl rfl rfl (by kernel_rfl) (by kernel_rfl) (xs := fun d => d.1) (left := fun d => d.2.1) (cur := fun d => d.2.2.1) (fun d => rfl) (fun d => rfl)
  (stp := fun d e l => E0 d.1 d.2.1 d.2.2.1 d.2.2.2.1 d.2.2.2.2.1 e.1 e.2 l) (fin := fun d => J8 d.1 d.2.1 d.2.2.1 d.2.2.2.1 d.2.2.2.2.1) (fun d e l => by obtain ⟨i2, l2, c2, r3, r4, ⟨⟩⟩ := d; obtain ⟨e0, e1⟩ := e; kernel_rfl) (fun d => by obtain ⟨i2, l2, c2, r3, r4, ⟨⟩⟩ := d; kernel_rfl) (fun d k => rfl)
theorem Rk {R : Type} : Bb Try.prog R 79 0 pa_impl_Apply Hr co_impl_Apply_11 :=
 Ec (cfg := ⟨Gz, 0, 79, pa_impl_Apply⟩) 11 [] (fun NX X d => Du  NX X d.1 d.2.1 d.2.2.1 d.2.2.2.1 d.2.2.2.2.1) (fun m d => A8 m d.1 d.2.1 d.2.2.1 d.2.2.2.1 d.2.2.2.2.1) (fun d => Cv d.1 d.2.1 d.2.2.1 d.2.2.2.1 d.2.2.2.2.1) J9 G0 trivial (fun f NX d => by unfold Du; simp only [A2, A9, Au, Option.bind_assoc, Option.bind_none, Option.bind_some]) (fun _ _ _ => by kernel_rfl)
theorem Sq {R : Type} : Bb Try.prog R 79 0 pa_impl_Apply Hr co_impl_Apply_6 :=
 Ec (cfg := ⟨Gz, 0, 79, pa_impl_Apply⟩) 6 [] (fun NX X d => D9  NX X d.1 d.2.1 d.2.2.1 d.2.2.2.1 d.2.2.2.2.1 d.2.2.2.2.2.1) (fun m d => Bi m d.1 d.2.1 d.2.2.1 d.2.2.2.1 d.2.2.2.2.1 d.2.2.2.2.2.1) (fun d => Dc d.1 d.2.1 d.2.2.1 d.2.2.2.1 d.2.2.2.2.1 d.2.2.2.2.2.1) Li G0 trivial (fun f NX d => by unfold D9; simp only [A2, A9, Au, Option.bind_assoc, Option.bind_none, Option.bind_some]) (fun _ _ _ => by kernel_rfl)
theorem Wf : Fr Try.prog 48 sd_impl_Apply :=
 Dl (pat := pa_impl_Apply) [co_impl_Apply_6, co_impl_Apply_11, co_impl_Apply_21] Hr G0 ⟨Sq, Rk, Rj, trivial⟩ Try.func48 (de := fun x => Jj x.1 x.2.1) (fun x r h => (We x.1 x.2.1).trans h) fun _ => by kernel_rfl
def Ct (a b : Stt) : Option Bool := if a.1.length ≤ 1073741824 then some (eqL (fun x y : Pr2 => m5 An x y) a.1 b.1) else none
def Vo : Sig := ⟨[.rd Uw, .rd Uw], [some 1, some 1], [.rd .bool], [none]⟩
noncomputable def sd_laws_wState : SD := ⟨Vo, fun x => (Ct x.1 x.2.1).bind fun r => some ((r, ()), (()))⟩
noncomputable def ta_laws_wState : Tb := tb []
def pa_laws_wState : Nat → Pat × (Nat → Pat) := Jx [(5, ⟨[.boxSl 2 0 An, .boxSl 3 0 An], [(2, .lf (.ptr 0 0)), (3, .lf (.ptr 1 0)), (5, .lf (.d tI))], [.box 30 [.d (.sl An)], .box 30 [.d (.sl An)]]⟩, [(2, p0), (1, ⟨[], [(4, .lf (.d .bool))], []⟩)])]
noncomputable def co_laws_wState_5 : Code := (At (B7 Try.f50)).getD 0 .skip
def Dv (v5 : Int) (b0_0 : List Pr2) (b1_0 : List Pr2) : Nat := ((b0_0.length : Int) - v5).toNat + 1
noncomputable def Dw {R : Type}  (NX : ((Int) × (List Pr2) × (List Pr2) × Unit) → Option R) (X2 : (Unit) → Option R) (X1 : ((Bool) × Unit) → Option R) (v5 : Int) (b0_0 : List Pr2) (b1_0 : List Pr2) : Option R :=
 bif decide (v5 < nI b0_0.length) then bif decide (0 ≤ v5) then bif decide (v5 < nI b0_0.length) then bif decide (0 ≤ v5) then bif decide (v5 < nI b1_0.length) then bif !(ByteArray.toList (b0_0.getD v5.toNat (ByteArray.mk #[], ByteArray.mk #[], ())).1 == ByteArray.toList (b1_0.getD v5.toNat (ByteArray.mk #[], ByteArray.mk #[], ())).1 && (ByteArray.toList (b0_0.getD v5.toNat (ByteArray.mk #[], ByteArray.mk #[], ())).2.1 == ByteArray.toList (b1_0.getD v5.toNat (ByteArray.mk #[], ByteArray.mk #[], ())).2.1 && true)) then X1 (false, ()) else NX (IntKind.i64.wrap (v5 + 1), b0_0, b1_0, ()) else none else none else none else none else X2 PUnit.unit
noncomputable def Bl : Nat → (Int) → (List Pr2) → (List Pr2) →  Option ((Unit) ⊕ ((Bool) × Unit))
 | 0, _, _, _ => none
 | m + 1, v5, b0_0, b1_0 => Dw  (fun d => Bl m d.1 d.2.1 d.2.2.1) (fun d => some (.inl (d))) (fun d => some (.inr (d))) v5 b0_0 b1_0
noncomputable def Il (a0 : Stt) (a1 : Stt) : Option ((((Bool) × Unit) × (Unit))) :=
 bif nI (List.length a0.1) != nI (List.length a1.1) then some ((false, ()), ()) else ((fun d => Bl (Dv d.1 d.2.1 d.2.2.1) d.1 d.2.1 d.2.2.1) (0, a0.1, a1)).bind fun val => Eb (fun d => some ((true, ()), ())) (fun d => some (d, ())) val
theorem Vp (a0 : Stt) (a1 : Stt) r (h : Ct a0 a1 = some r) : Il a0 a1 = some ((r, ()), (())) := by
 unfold Ct at h
 split at h
 rotate_left
 ·cases h
 rename_i hlen
 cases h
 unfold Il
 by_cases hl : a1.1.length = a0.1.length
 ·have c1 : (nI a0.1.length != nI a1.1.length) = false := by simp [nI, hl]
  rw [c1]
  have hL := Aa5 (xs := a0.1) (ys := a1.1) zP (fun x y : Pr2 => m5 An x y) (g := fun m i => Bl m i a0.1 a1.1) (ok := .inl ()) (bad := .inr (false, ())) hl (fun m i hi => by
   show Bl (m + 1) i a0.1 a1.1 = _
   simp only [Bl, Dw]
   rw [Zp hi, L9, Zp (show i < a1.1.length by omega), wI (by omega)]
   simp only [cond_true, Int.toNat_natCast]
   show (bif !(m5 An (a0.1.getD i zP) (a1.1.getD i zP)) then _ else _) = bif m5 An (a0.1.getD i zP) (a1.1.getD i zP) then _ else _
   cases m5 An (a0.1.getD i zP) (a1.1.getD i zP) <;> rfl) (fun m => by
   show Bl (m + 1) (a0.1.length : Int) a0.1 a1.1 = _
   simp only [Bl, Dw]
   rw [Q1]
   rfl) (Dv 0 a0.1 a1.1) 0 (by omega) (by simp [Dv, nI])
  refine U1 hL ?_
  rw [List.drop_zero, List.drop_zero]
  show Eb _ _ (bif eqL (fun x y : Pr2 => m5 An x y) a0.1 a1.1 then _ else _) = _
  cases eqL (fun x y : Pr2 => m5 An x y) a0.1 a1.1 <;> rfl
 ·have c1 : (nI a0.1.length != nI a1.1.length) = true := by simp [nI]; omega
  rw [c1, show eqL (fun x y : Pr2 => m5 An x y) a0.1 a1.1 = false from Aa4 fun q => hl q.symm]
  rfl
noncomputable def Ka {R : Type} (k : Kt R) := (Eb (Nc (pa_laws_wState 5) (.exit 0) 2 k) (Nc (pa_laws_wState 5) .ret 1 k))
noncomputable def Nx {R : Type} : Lt R pa_laws_wState := (Hb (pat := pa_laws_wState) 5 (fun d k => (Bl (Dv d.1 d.2.1 d.2.2.1) d.1 d.2.1 d.2.2.1).bind (Ka k)) O6)
theorem Mt : Az Try.prog ta_laws_wState := Dz trivial
theorem Rl {R : Type} : Bb Try.prog R 31 0 pa_laws_wState Nx co_laws_wState_5 :=
 Ec (cfg := ⟨ta_laws_wState, 0, 31, pa_laws_wState⟩) 5 [] (fun NX X d => Dw  NX (fun e => X (.inl (e))) (fun e => X (.inr (e))) d.1 d.2.1 d.2.2.1) (fun m d => Bl m d.1 d.2.1 d.2.2.1) (fun d => Dv d.1 d.2.1 d.2.2.1) Ka Mt trivial (fun f NX d => by unfold Dw; simp only [A2, A9, Au, Option.bind_assoc, Option.bind_none, Option.bind_some]) (fun _ _ _ => by kernel_rfl)
theorem Vq : Fr Try.prog 50 sd_laws_wState :=
 Dl (pat := pa_laws_wState) [co_laws_wState_5] Nx Mt ⟨Rl, trivial⟩ Try.func50 (de := fun x => Il x.1 x.2.1) (fun x r h => M7 (Vp x.1 x.2.1) h) fun _ => by kernel_rfl
def D5 (s : Stt) (k : ByteArray) : ByteArray × Bool := Aa2 s k
def l5 : Sig := ⟨[.rd Uw, .rd .str], [some 1, none], [.rd .str, .rd .bool], [none, none]⟩
noncomputable def sd_impl_Get : SD := ⟨l5, fun x => some (((D5 x.1 x.2.1).1, (D5 x.1 x.2.1).2, ()), (()))⟩
noncomputable def ta_impl_Get : Tb := tb [(53, sd_impl_ValidState)]
def pa_impl_Get : Nat → Pat × (Nat → Pat) := Jx [(5, ⟨[.sl 12 0 An], [(1, .lf (.d .str)), (12, .lf (.d (.sl An))), (13, .lf (.d tI)), (14, .lf (.d tI))], []⟩, [(2, p0), (1, ⟨[], [(4, .lf (.d .str)), (5, .lf (.d .bool))], []⟩)])]
noncomputable def co_impl_Get_5 : Code := (At (B7 Try.f51)).getD 0 .skip
def Di (v1 : ByteArray) (v12 : List Pr2) (v13 : Int) (v14 : Int) : Nat := (v13 - v14).toNat + 1
noncomputable def E7 {R : Type}  (NX : ((ByteArray) × (List Pr2) × (Int) × (Int) × Unit) → Option R) (X2 : (Unit) → Option R) (X1 : ((ByteArray) × (Bool) × Unit) → Option R) (v1 : ByteArray) (v12 : List Pr2) (v13 : Int) (v14 : Int) : Option R :=
 bif decide (v14 < v13) then bif decide (0 ≤ v14) then bif decide (v14 < nI v12.length) then bif ByteArray.toList (v12.getD v14.toNat (ByteArray.mk #[], ByteArray.mk #[], ())).1 == v1.toList then X1 ((v12.getD v14.toNat (ByteArray.mk #[], ByteArray.mk #[], ())).2.1, true, ()) else NX (v1, v12, v13, IntKind.i64.wrap (v14 + 1), ()) else none else none else X2 PUnit.unit
noncomputable def Bt : Nat → (ByteArray) → (List Pr2) → (Int) → (Int) →  Option ((Unit) ⊕ ((ByteArray) × (Bool) × Unit))
 | 0, _, _, _, _ => none
 | m + 1, v1, v12, v13, v14 => E7  (fun d => Bt m d.1 d.2.1 d.2.2.1 d.2.2.2.1) (fun d => some (.inl (d))) (fun d => some (.inr (d))) v1 v12 v13 v14
noncomputable def Mu (a0 : Stt) (a1 : ByteArray) : Option ((((ByteArray) × (Bool) × Unit) × (Unit))) :=
 bif !B0 a0 then some ((ByteArray.mk #[], false, ()), ()) else ((fun d => Bt (Di d.1 d.2.1 d.2.2.1 d.2.2.2.1) d.1 d.2.1 d.2.2.1 d.2.2.2.1) (a1, a0.1, nI (List.length a0.1), 0, ())).bind fun val => Eb (fun d => some ((ByteArray.mk #[], false, ()), ())) (fun d => some (d, ())) val
theorem l6 (a0 : Stt) (a1 : ByteArray) : Mu a0 a1 = some (((D5 a0 a1).1, (D5 a0 a1).2, ()), (())) := by
 unfold Mu D5 Aa2
 show (bif !Af a0 then _ else _) = _
 cases hv : Af a0 with
 | false => rfl
 | true =>
  have hlen : a0.1.length ≤ 100 := of_decide_eq_true (Hc hv).1
  have hL := Xh (xs := a0.1) zP (fun p => p.1.toList == a1.toList) (fun p => .inr (p.2.1, true, ())) (g := fun m i => Bt m a1 a0.1 (nI a0.1.length) i) (ok := .inl ()) (fun m i hi => by
   show Bt (m + 1) a1 a0.1 (nI a0.1.length) i = _
   simp only [Bt, E7]
   rw [Zp hi, L9, wI (show i < 4611686018427387904 by omega), Int.toNat_natCast]
   rfl) (fun m => by
   show Bt (m + 1) a1 a0.1 (nI a0.1.length) (a0.1.length : Int) = _
   simp only [Bt, E7]
   rw [Q1]
   rfl) (Di a1 a0.1 (nI a0.1.length) 0) 0 (by omega) (by simp [Di, nI])
  have hL' : Bt (Di a1 a0.1 (nI a0.1.length) 0) a1 a0.1 (nI a0.1.length) 0 = _ := hL
  show (Bt (Di a1 a0.1 (nI a0.1.length) 0) a1 a0.1 (nI a0.1.length) 0).bind _ = some (((R5 a1 a0.1).1, (R5 a1 a0.1).2, ()), ())
  rw [hL', List.drop_zero]
  show Eb _ _ _ = _
  unfold R5
  rw [Oi (Eb _ _), Oi (fun r : ByteArray × Bool => some ((r.1, r.2, ()), ()))]
  rfl
noncomputable def Ny {R : Type} (k : Kt R) := (Eb (Nc (pa_impl_Get 5) (.exit 0) 2 k) (Nc (pa_impl_Get 5) .ret 1 k))
noncomputable def Vr {R : Type} : Lt R pa_impl_Get := (Hb (pat := pa_impl_Get) 5 (fun d k => (Bt (Di d.1 d.2.1 d.2.2.1 d.2.2.2.1) d.1 d.2.1 d.2.2.1 d.2.2.2.1).bind (Ny k)) O6)
theorem Sb : Az Try.prog ta_impl_Get := Dz ⟨D1, trivial⟩
theorem Wg {R : Type} : Bb Try.prog R 25 0 pa_impl_Get Vr co_impl_Get_5 :=
 Ec (cfg := ⟨ta_impl_Get, 0, 25, pa_impl_Get⟩) 5 [] (fun NX X d => E7  NX (fun e => X (.inl (e))) (fun e => X (.inr (e))) d.1 d.2.1 d.2.2.1 d.2.2.2.1) (fun m d => Bt m d.1 d.2.1 d.2.2.1 d.2.2.2.1) (fun d => Di d.1 d.2.1 d.2.2.1 d.2.2.2.1) Ny Sb trivial (fun f NX d => by unfold E7; simp only [A2, A9, Au, Option.bind_assoc, Option.bind_none, Option.bind_some]) (fun _ _ _ => by kernel_rfl)
theorem l7 : Fr Try.prog 51 sd_impl_Get :=
 Dl (pat := pa_impl_Get) [co_impl_Get_5] Vr Sb ⟨Wg, trivial⟩ Try.func51 (de := fun x => Mu x.1 x.2.1) (fun x r h => (l6 x.1 x.2.1).trans h) fun _ => by kernel_rfl
def I6 (s : Stt) (w : Int) : Int := Xp s w
def Zk : Sig := ⟨[.rd Uw, .rd tI], [some 1, none], [.rd tI], [none]⟩
noncomputable def sd_impl_Room : SD := ⟨Zk, fun x => some (((I6 x.1 x.2.1), ()), (()))⟩
noncomputable def ta_impl_Room : Tb := tb [(12, sd_impl_Snapshot), (19, sd_impl_FormBatch), (42, sd_impl_Pages), (83, sd_impl_in)]
def pa_impl_Room : Nat → Pat × (Nat → Pat) := Jx [(6, ⟨[.sl 12 0 (.sl Cs)], [(1, .lf (.d tI)), (5, .lf (.d tI)), (12, .lf (.d (.sl (.sl Cs)))), (13, .lf (.d tI)), (14, .lf (.d tI))], []⟩, [(2, ⟨[], [(5, .lf (.d tI))], []⟩)])]
noncomputable def co_impl_Room_6 : Code := (At (B7 Try.f52)).getD 0 .skip
def C2 (v1 : Int) (v5 : Int) (v12 : List (List Chg)) (v13 : Int) (v14 : Int) : Nat := (v13 - v14).toNat + 1
noncomputable def Eo {R : Type}  (NX : ((Int) × (Int) × (List (List Chg)) × (Int) × (Int) × Unit) → Option R) (X2 : ((Int) × Unit) → Option R) (v1 : Int) (v5 : Int) (v12 : List (List Chg)) (v13 : Int) (v14 : Int) : Option R :=
 bif decide (v14 < v13) then bif decide (0 ≤ v14) then bif decide (v14 < nI v12.length) then ((D3 (Ca (v12.getD v14.toNat [])) v1).bind fun val => some ((val, ()), ())).bind fun val => NX (v1, IntKind.i64.wrap (v5 + val.1.1), v12, v13, IntKind.i64.wrap (v14 + 1), ()) else none else none else X2 (v5, ())
noncomputable def Bg : Nat → (Int) → (Int) → (List (List Chg)) → (Int) → (Int) →  Option ((Int) × Unit)
 | 0, _, _, _, _, _ => none
 | m + 1, v1, v5, v12, v13, v14 => Eo  (fun d => Bg m d.1 d.2.1 d.2.2.1 d.2.2.2.1 d.2.2.2.2.1) (fun d => some (d)) v1 v5 v12 v13 v14
noncomputable def K6 (a0 : Stt) (a1 : Int) : Option ((((Int) × Unit) × (Unit))) :=
 bif !Gq a1 1 8 then some ((0, ()), ()) else ((fun d => Bg (C2 d.1 d.2.1 d.2.2.1 d.2.2.2.1 d.2.2.2.2.1) d.1 d.2.1 d.2.2.1 d.2.2.2.1 d.2.2.2.2.1) (a1, 0, Cn a0, nI (Cn a0).length, 0, ())).bind fun val => some (val, ())
theorem Zl (a0 : Stt) (a1 : Int) : K6 a0 a1 = some (((I6 a0 a1), ()), (())) := by
 unfold K6 I6
 show (bif !M8 a1 1 8 then _ else _) = _
 cases hw : M8 a1 1 8 with
 | false => unfold Xp; rw [hw]; rfl
 | true =>
  have hl := Xo a0
  have hL := Fd (xs := Cx a0) [] Ad5 (fun _ b a => a + C8 (Ed b).size a1) (g := fun m i a => Bg m a1 a (Cx a0) (nI (Cx a0).length) i) (ok := fun a => (a, ())) (fun m i a hi hI => by
   show Bg (m + 1) a1 a (Cx a0) (nI (Cx a0).length) i = _
   simp only [Bg, Eo]
   rw [Zp hi, L9, wI (show i < 4611686018427387904 by omega), Int.toNat_natCast]
   have e1 : D3 (Ca (List.getD (Cx a0) i [])) a1 = some (C8 (Ed (List.getD (Cx a0) i [])).size a1) := if_pos (Nat.le_trans (H5 _) (by decide))
   rw [e1]
   simp only [cond_true, Option.bind_some]
   rw [w9 hI]) (fun i a hi hI => hI.step (by omega) _ _) (fun m a hI => by
   show Bg (m + 1) a1 a (Cx a0) (nI (Cx a0).length) ((Cx a0).length : Int) = _
   simp only [Bg, Eo]
   rw [Q1]
   rfl) (C2 a1 0 (Cx a0) (nI (Cx a0).length) 0) 0 0 (by omega) (by simp [C2, nI]) ⟨by omega, by omega, by omega⟩
  have hL' : Bg (C2 a1 0 (Cx a0) (nI (Cx a0).length) 0) a1 0 (Cx a0) (nI (Cx a0).length) 0 = _ := hL
  show (Bg (C2 a1 0 (Cx a0) (nI (Cx a0).length) 0) a1 0 (Cx a0) (nI (Cx a0).length) 0).bind _ = _
  rw [hL', Xq, List.drop_zero, Ad4, Int.zero_add]
  rfl
noncomputable def Mv {R : Type} (k : Kt R) := (Nc (pa_impl_Room 6) (.exit 0) 2 k)
noncomputable def Sc {R : Type} : Lt R pa_impl_Room := (Hb (pat := pa_impl_Room) 6 (fun d k => (Bg (C2 d.1 d.2.1 d.2.2.1 d.2.2.2.1 d.2.2.2.2.1) d.1 d.2.1 d.2.2.1 d.2.2.2.1 d.2.2.2.2.1).bind (Mv k)) O6)
theorem Qg : Az Try.prog ta_impl_Room := Dz ⟨J1, I0, Nr, K4, trivial⟩
theorem Vs {R : Type} : Bb Try.prog R 26 0 pa_impl_Room Sc co_impl_Room_6 :=
 Ec (cfg := ⟨ta_impl_Room, 0, 26, pa_impl_Room⟩) 6 [] (fun NX X d => Eo  NX X d.1 d.2.1 d.2.2.1 d.2.2.2.1 d.2.2.2.2.1) (fun m d => Bg m d.1 d.2.1 d.2.2.1 d.2.2.2.1 d.2.2.2.2.1) (fun d => C2 d.1 d.2.1 d.2.2.1 d.2.2.2.1 d.2.2.2.2.1) Mv Qg trivial (fun f NX d => by unfold Eo; simp only [A2, A9, Au, Option.bind_assoc, Option.bind_none, Option.bind_some]) (fun _ _ _ => by kernel_rfl)
theorem Zm : Fr Try.prog 52 sd_impl_Room :=
 Dl (pat := pa_impl_Room) [co_impl_Room_6] Sc Qg ⟨Vs, trivial⟩ Try.func52 (de := fun x => K6 x.1 x.2.1) (fun x r h => (Zl x.1 x.2.1).trans h) fun _ => by kernel_rfl
def Dn (v4 : List Chg) (v9 : Int) (b0_0 b1_0 : List Pr2) : Nat := ((v4.length : Int) - v9).toNat + 1
def E4 (v4 : List Chg) (v9 v10 v11 : Int) (b0_0 b1_0 : List Pr2) : Nat := ((v4.length : Int) - v11).toNat + 1
def Rm : Sig := ⟨[.rd (.sl (.int .u8))], [none], [.rd .bool], [none]⟩
noncomputable def ta_laws_FnStates : Tb := tb [(12, sd_impl_Snapshot), (19, sd_impl_FormBatch), (42, sd_impl_Pages), (47, sd_spec_DrawApply), (48, sd_impl_Apply), (49, sd_spec_Apply), (50, sd_laws_wState), (51, sd_impl_Get), (52, sd_impl_Room), (53, sd_impl_ValidState)]
def pa_laws_FnStates : Nat → Pat × (Nat → Pat) := Jx [(12, ⟨[.sl 4 0 Cs, .boxSl 5 0 An, .boxSl 7 0 An], [(4, .lf (.d (.sl Cs))), (5, .lf (.ptr 0 0)), (7, .lf (.ptr 1 0)), (9, .lf (.d tI))], [.box 30 [.d (.sl An)], .box 30 [.d (.sl An)]]⟩, [(2, ⟨[.boxSl 5 0 An, .boxSl 7 0 An], [(5, .lf (.ptr 0 0)), (7, .lf (.ptr 1 0))], [.box 30 [.d (.sl An)], .box 30 [.d (.sl An)]]⟩), (1, ⟨[], [(2, .lf (.d .bool))], []⟩)]), (16, ⟨[.sl 4 0 Cs, .boxSl 5 0 An, .boxSl 7 0 An], [(4, .lf (.d (.sl Cs))), (5, .lf (.ptr 0 0)), (7, .lf (.ptr 1 0)), (9, .lf (.d tI)), (10, .lf (.d tI)), (11, .lf (.d tI))], [.box 30 [.d (.sl An)], .box 30 [.d (.sl An)]]⟩, [(4, ⟨[.sl 4 0 Cs, .boxSl 5 0 An, .boxSl 7 0 An], [(4, .lf (.d (.sl Cs))), (5, .lf (.ptr 0 0)), (7, .lf (.ptr 1 0)), (9, .lf (.d tI)), (10, .lf (.d tI))], [.box 30 [.d (.sl An)], .box 30 [.d (.sl An)]]⟩)]), (27, ⟨[.sl 15 0 (.sl Cs), .boxSl 5 0 An, .boxSl 7 0 An, .boxSl 14 0 An], [(5, .lf (.ptr 0 0)), (7, .lf (.ptr 1 0)), (14, .lf (.ptr 2 0)), (15, .lf (.d (.sl (.sl Cs)))), (16, .lf (.d tI)), (17, .lf (.d tI))], [.box 30 [.d (.sl An)], .box 30 [.d (.sl An)], .box 30 [.d (.sl An)]]⟩, [(6, ⟨[.boxSl 5 0 An, .boxSl 7 0 An, .boxSl 14 0 An], [(5, .lf (.ptr 0 0)), (7, .lf (.ptr 1 0)), (14, .lf (.ptr 2 0)), (16, .lf (.d tI))], [.box 30 [.d (.sl An)], .box 30 [.d (.sl An)], .box 30 [.d (.sl An)]]⟩), (1, ⟨[], [(2, .lf (.d .bool))], []⟩)])]
noncomputable def co_laws_FnStates_12 : Code := (At (B7 Try.f8)).getD 0 .skip
noncomputable def co_laws_FnStates_16 : Code := (At co_laws_FnStates_12).getD 0 .skip
noncomputable def co_laws_FnStates_27 : Code := (At (B7 Try.f8)).getD 1 .skip
def Do (v15 : List (List Chg)) (v16 : Int) (v17 : Int) (b0_0 : List Pr2) (b1_0 : List Pr2) (b2_0 : List Pr2) : Nat := ((v15.length : Int) - v17).toNat + 1
noncomputable def Dp {R : Type}  (NX : ((List (List Chg)) × (Int) × (Int) × (List Pr2) × (List Pr2) × (List Pr2) × Unit) → Option R) (X6 : ((Int) × (List Pr2) × (List Pr2) × (List Pr2) × Unit) → Option R) (X1 : ((Bool) × Unit) → Option R) (v15 : List (List Chg)) (v16 : Int) (v17 : Int) (b0_0 : List Pr2) (b1_0 : List Pr2) (b2_0 : List Pr2) : Option R :=
 bif decide (v17 < nI v15.length) then bif decide (0 ≤ v17) then bif decide (v17 < nI v15.length) then bif (Ba (b2_0, ()) (v15.getD v17.toNat [])).2 != 0 then X1 (false, ()) else bif decide (0 ≤ v17) then bif decide (v17 < nI v15.length) then bif decide (nI (List.length (v15.getD v17.toNat [])) > 20) then X1 (false, ()) else bif decide (0 ≤ v17) then bif decide (v17 < nI v15.length) then ((D3 (Ca (v15.getD v17.toNat [])) 8).bind fun val => some ((val, ()), ())).bind fun val => NX (v15, IntKind.i64.wrap (v16 + val.1.1), IntKind.i64.wrap (v17 + 1), b0_0, b1_0, (Ba (b2_0, ()) (v15.getD v17.toNat [])).1) else none else none else none else none else none else none else X6 (v16, b0_0, b1_0, b2_0, ())
noncomputable def B2 : Nat → (List (List Chg)) → (Int) → (Int) → (List Pr2) → (List Pr2) → (List Pr2) →  Option (((Int) × (List Pr2) × (List Pr2) × (List Pr2) × Unit) ⊕ ((Bool) × Unit))
 | 0, _, _, _, _, _, _ => none
 | m + 1, v15, v16, v17, b0_0, b1_0, b2_0 => Dp  (fun d => B2 m d.1 d.2.1 d.2.2.1 d.2.2.2.1 d.2.2.2.2.1 d.2.2.2.2.2.1) (fun d => some (.inl (d))) (fun d => some (.inr (d))) v15 v16 v17 b0_0 b1_0 b2_0
noncomputable def Dq {R : Type}  (NX : ((List Chg) × (Int) × (Int) × (Int) × (List Pr2) × (List Pr2) × Unit) → Option R) (X4 : ((List Chg) × (Int) × (Int) × (List Pr2) × (List Pr2) × Unit) → Option R) (v4 : List Chg) (v9 : Int) (v10 : Int) (v11 : Int) (b0_0 : List Pr2) (b1_0 : List Pr2) : Option R :=
 bif decide (v11 < nI v4.length) then bif decide (0 ≤ v11) then bif decide (v11 < nI v4.length) then bif decide (0 ≤ v9) then bif decide (v9 < nI v4.length) then bif ByteArray.toList (v4.getD v11.toNat (ByteArray.mk #[], ByteArray.mk #[], false, ())).1 == ByteArray.toList (v4.getD v9.toNat (ByteArray.mk #[], ByteArray.mk #[], false, ())).1 then NX (v4, v9, v11, IntKind.i64.wrap (v11 + 1), b0_0, b1_0, ()) else NX (v4, v9, v10, IntKind.i64.wrap (v11 + 1), b0_0, b1_0, ()) else none else none else none else none else X4 (v4, v9, v10, b0_0, b1_0, ())
noncomputable def Cr : Nat → (List Chg) → (Int) → (Int) → (Int) → (List Pr2) → (List Pr2) →  Option ((List Chg) × (Int) × (Int) × (List Pr2) × (List Pr2) × Unit)
 | 0, _, _, _, _, _, _ => none
 | m + 1, v4, v9, v10, v11, b0_0, b1_0 => Dq  (fun d => Cr m d.1 d.2.1 d.2.2.1 d.2.2.2.1 d.2.2.2.2.1 d.2.2.2.2.2.1) (fun d => some (d)) v4 v9 v10 v11 b0_0 b1_0
noncomputable def Dr (d : (List Chg) × (Int) × (Int) × (Int) × (List Pr2) × (List Pr2) × Unit) : Option ((List Chg) × (Int) × (Int) × (List Pr2) × (List Pr2) × Unit) := Cr (E4 d.1 d.2.1 d.2.2.1 d.2.2.2.1 d.2.2.2.2.1 d.2.2.2.2.2.1) d.1 d.2.1 d.2.2.1 d.2.2.2.1 d.2.2.2.2.1 d.2.2.2.2.2.1
noncomputable def Ds {R : Type} (LO16 : ((List Chg) × (Int) × (Int) × (Int) × (List Pr2) × (List Pr2) × Unit) → Option ((List Chg) × (Int) × (Int) × (List Pr2) × (List Pr2) × Unit)) (NX : ((List Chg) × (Int) × (List Pr2) × (List Pr2) × Unit) → Option R) (X2 : ((List Pr2) × (List Pr2) × Unit) → Option R) (X1 : ((Bool) × Unit) → Option R) (v4 : List Chg) (v9 : Int) (b0_0 : List Pr2) (b1_0 : List Pr2) : Option R :=
 bif decide (v9 < nI v4.length) then (LO16 (v4, v9, v9, v9, b0_0, b1_0, ())).bind fun val => bif decide (0 ≤ val.2.1) then bif decide (val.2.1 < nI (List.length val.1)) then bif decide (0 ≤ val.2.2.1) then bif decide (val.2.2.1 < nI (List.length val.1)) then bif (D5 (val.2.2.2.1, ()) (List.getD val.1 (Int.toNat val.2.1) (ByteArray.mk #[], ByteArray.mk #[], false, ())).1).2 == (List.getD val.1 (Int.toNat val.2.2.1) (ByteArray.mk #[], ByteArray.mk #[], false, ())).2.2.1 then X1 (false, ()) else bif (D5 (val.2.2.2.1, ()) (List.getD val.1 (Int.toNat val.2.1) (ByteArray.mk #[], ByteArray.mk #[], false, ())).1).2 then bif decide (0 ≤ val.2.2.1) then bif decide (val.2.2.1 < nI (List.length val.1)) then bif !(D5 (val.2.2.2.1, ()) (List.getD val.1 (Int.toNat val.2.1) (ByteArray.mk #[], ByteArray.mk #[], false, ())).1).1.toList == ByteArray.toList (List.getD val.1 (Int.toNat val.2.2.1) (ByteArray.mk #[], ByteArray.mk #[], false, ())).2.1 then X1 (false, ()) else NX (val.1, IntKind.i64.wrap (val.2.1 + 1), val.2.2.2) else none else none else NX (val.1, IntKind.i64.wrap (val.2.1 + 1), val.2.2.2) else none else none else none else none else X2 (b0_0, b1_0, ())
noncomputable def B3 : Nat → (List Chg) → (Int) → (List Pr2) → (List Pr2) →  Option (((List Pr2) × (List Pr2) × Unit) ⊕ ((Bool) × Unit))
 | 0, _, _, _, _ => none
 | m + 1, v4, v9, b0_0, b1_0 => Ds Dr (fun d => B3 m d.1 d.2.1 d.2.2.1 d.2.2.2.1) (fun d => some (.inl (d))) (fun d => some (.inr (d))) v4 v9 b0_0 b1_0
noncomputable def E1 (a0 : List Int) : Option ((((Bool) × Unit) × (Unit))) :=
 bif decide (nI a0.length > 1048576) then some ((true, ()), ()) else (m_spec_DrawApply a0).bind fun val => bif (Ba (val.1.1, ()) val.1.2.1).2 != (Bu (val.1.1, ()) val.1.2.1).2 then some ((false, ()), ()) else ((Ct (Ba (val.1.1, ()) val.1.2.1).1 (Bu (val.1.1, ()) val.1.2.1).1).bind fun val => some ((val, ()), ())).bind fun val_1 => bif !val_1.1.1 then some ((false, ()), ()) else bif (Ba (val.1.1, ()) val.1.2.1).2 != 0 then some ((nI (Ba (val.1.1, ()) val.1.2.1).1.1.length == 0, ()), ()) else ((fun d => B3 (Dn d.1 d.2.1 d.2.2.1 d.2.2.2.1) d.1 d.2.1 d.2.2.1 d.2.2.2.1) (val.1.2.1, 0, (Ba (val.1.1, ()) val.1.2.1).1.1, (Bu (val.1.1, ()) val.1.2.1).1)).bind fun val => Eb (fun d => ((fun d => B2 (Do d.1 d.2.1 d.2.2.1 d.2.2.2.1 d.2.2.2.2.1 d.2.2.2.2.2.1) d.1 d.2.1 d.2.2.1 d.2.2.2.1 d.2.2.2.2.1 d.2.2.2.2.2.1) (Cn (d.1, ()), 0, 0, d.1, d.2.1, [], ())).bind fun val => Eb (fun d => ((Ct d.2.2.2 (d.2.2.1, ())).bind fun val => some ((val, ()), ())).bind fun val => bif val.1.1 then bif d.1 == I6 (d.2.1, ()) 8 then some ((B0 (d.2.1, ()), ()), ()) else some ((false, ()), ()) else some ((false, ()), ())) (fun d => some (d, ())) val) (fun d => some (d, ())) val
noncomputable def sd_laws_FnStates : SD := ⟨Rm, fun x => E1 x.1⟩
theorem Rn (b : List Chg) (x y : List Pr2) (i : Nat) (hi : i < b.length) (hn : b.length ≤ 1000) : ∀ (m k j : Nat), b.length - k < m → k ≤ b.length → i ≤ k → i ≤ j → j < b.length → (b.getD j zC).1 = (b.getD i zC).1 → (∀ t, j < t → t < k → (b.getD t zC).1 ≠ (b.getD i zC).1) →
  Ah (Cr m b i j k x y) fun q => ∃ j : Nat, q = (b, (i : Int), (j : Int), x, y, ()) ∧ i ≤ j ∧ j < b.length ∧ (b.getD j zC).1 = (b.getD i zC).1 ∧ ∀ t, j < t → t < b.length → (b.getD t zC).1 ≠ (b.getD i zC).1
 | 0, k, j, h, _, _, _, _, _, _ => by omega
 | m + 1, k, j, h, hk, hik, hj, hj2, he, hl => by
  simp only [Cr, Dq]
  refine Ah.cond (fun c => ?_) fun c => ?_
  ·have c : k < b.length := by have := of_decide_eq_true c; simp only [nI] at this; omega
   have d1 : decide (0 ≤ (k : Int)) = true := decide_eq_true (by omega)
   have d2 : decide ((k : Int) < nI b.length) = true := decide_eq_true (by simp only [nI]; omega)
   have d3 : decide (0 ≤ (i : Int)) = true := decide_eq_true (by omega)
   have d4 : decide ((i : Int) < nI b.length) = true := decide_eq_true (by simp only [nI]; omega)
   rw [wI (by omega)]
   refine Ah.go d1 (Ah.go d2 (Ah.go d3 (Ah.go d4 ?_)))
   simp only [Int.toNat_natCast]
   refine Ah.cond (fun c2 => ?_) fun c2 => ?_
   ·exact Rn b x y i hi hn m (k + 1) k (by omega) (by omega) (by omega) hik c (Ad1 c2) (fun t h1 h2 => by omega)
   ·refine Rn b x y i hi hn m (k + 1) j (by omega) (by omega) (by omega) hj hj2 he fun t h1 h2 => ?_
    by_cases q : t = k
    ·subst q
     intro e
     have c2 : ((b.getD t zC).1.toList == (b.getD i zC).1.toList) = false := c2
     rw [e] at c2
     simp at c2
    ·exact hl t h1 (by omega)
  ·have c : k = b.length := by have := of_decide_eq_false c; simp only [nI] at this; omega
   subst c
   exact Ah.some ⟨j, rfl, hj, hj2, he, hl⟩
theorem X0 (s : Stt) (b : List Chg) (y : List Pr2) (hn : b.length ≤ 1000) (h : (A6 s b).2 = 0) : ∀ (m i : Nat), b.length - i < m → i ≤ b.length → Ah (B3 m b i (A6 s b).1.1 y) fun q => q = .inl ((A6 s b).1.1, y, ())
 | 0, i, hm, _ => by omega
 | m + 1, i, hm, hi => by
  simp only [B3, Ds, Dr]
  refine Ah.cond (fun c => ?_) fun c => Ah.some rfl
  have c : i < b.length := by have := of_decide_eq_true c; simp only [nI] at this; omega
  refine Ah.bind (Rn b (A6 s b).1.1 y i c hn _ i i (by simp only [E4]; omega) (by omega) (Nat.le_refl _) (Nat.le_refl _) c rfl fun t h1 h2 => by omega) fun q hq => ?_
  obtain ⟨j, rfl, h1, h2, h3, h4⟩ := hq
  dsimp only
  have d1 : decide (0 ≤ (i : Int)) = true := decide_eq_true (by omega)
  have d2 : decide ((i : Int) < nI (List.length b)) = true := decide_eq_true (by simp only [nI]; omega)
  have d3 : decide (0 ≤ (j : Int)) = true := decide_eq_true (by omega)
  have d4 : decide ((j : Int) < nI (List.length b)) = true := decide_eq_true (by simp only [nI]; omega)
  have hg := Acc h h2 (fun t a1 a2 => by rw [h3]; exact h4 t a1 a2)
  rw [h3] at hg
  refine Ah.go d1 (Ah.go d2 (Ah.go d3 (Ah.go d4 ?_)))
  simp only [Int.toNat_natCast]
  have e1 : D5 ((A6 s b).1.1, ()) (List.getD b i zC).1 = bif (b.getD j zC).2.2.1 then (⟨#[]⟩, false) else ((b.getD j zC).2.1, true) := hg
  rw [e1, wI (by omega)]
  have go := X0 s b y hn h m (i + 1) (by omega) (by omega)
  cases hc : (b.getD j zC).2.2.1 with
  | true => exact Ah.no (by rfl) (Ah.no (by rfl) go)
  | false => exact Ah.no (by rfl) (Ah.go (by rfl) (Ah.go d3 (Ah.go d4 (Ah.no (by simp) go))))
theorem X5 (x y : List Pr2) (L : List (List Chg)) (hL : L.length ≤ 101) : ∀ (m i : Nat) (n : Int) (pre post : List Pr2), L.length - i < m → i ≤ L.length → (0 ≤ n ∧ n ≤ 4001 * (i : Int)) → Xv (L.drop i) post → Af (pre ++ post, ()) = true →
  Ah (B2 m L n i x y pre) fun q => q = .inl (n + ((L.drop i).map fun b => C8 (Ed b).size 8).sum, x, y, pre ++ post, ())
 | 0, i, n, pre, post, hm, _, _, _, _ => by omega
 | m + 1, i, n, pre, post, hm, hi, hn, hp, hv => by
  simp only [B2, Dp]
  refine Ah.cond (fun c => ?_) fun c => ?_
  ·have c : i < L.length := by have := of_decide_eq_true c; simp only [nI] at this; omega
   have d1 : decide (0 ≤ (i : Int)) = true := decide_eq_true (by omega)
   have d2 : decide ((i : Int) < nI L.length) = true := decide_eq_true (by simp only [nI]; omega)
   have hd := Gp L i [] c
   rw [hd] at hp ⊢
   obtain ⟨p1, p2, rfl, e1, k1, k2, hp'⟩ := hp.cons
   refine Ah.go d1 (Ah.go d2 ?_)
   simp only [Int.toNat_natCast]
   have ha : Ba (pre, ()) (L.getD i []) = ((pre ++ p1, ()), 0) := by
    rw [e1]
    exact x7 (m := p1) (Xu (m := p2) (by rw [List.append_assoc]; exact hv)) k1 k2
   have hlen : (L.getD i []).length ≤ 20 := by rw [e1, List.length_map]; exact k2
   rw [ha]
   refine Ah.no (by rfl) (Ah.go d1 (Ah.go d2 (Ah.no (decide_eq_false (by simp only [nI]; omega)) (Ah.go d1 (Ah.go d2 ?_)))))
   have hs := H5 (L.getD i [])
   have ep : D3 (Ca (L.getD i [])) 8 = some (C8 (Ed (L.getD i [])).size 8) := if_pos (Nat.le_trans hs (by decide))
   rw [ep]
   simp only [Option.bind_some]
   have hb := Na (Ed (L.getD i [])).size 8
   rw [Ao (n := n + C8 (Ed (L.getD i [])).size 8) (by omega) (by omega), wI (by omega)]
   refine (X5 x y L hL m (i + 1) _ (pre ++ p1) p2 (by omega) (by omega) (by omega) hp' (by rw [List.append_assoc]; exact hv)).mono fun q hq => ?_
   rw [hq, List.map_cons, List.sum_cons, List.append_assoc, Int.add_assoc]
  ·have c : i = L.length := by have := of_decide_eq_false c; simp only [nI] at this; omega
   subst c
   rw [List.drop_length] at hp ⊢
   have : post = [] := by
    have := hp.1
    simpa using this.symm
   subst this
   exact Ah.some (by simp)
theorem Zn (a0 : List Int) (h0 : Nq (.sl (.int .u8)) a0) : E1 a0 = some ((true, ()), ()) := by
 apply Ah.law
 unfold E1
 refine Ah.cond (fun _ => Ah.some rfl) fun _ => ?_
 refine Ah.bind (Aek a0 h0) fun q hq => ?_
 obtain ⟨⟨l, b, ⟨⟩⟩, ⟨⟩⟩ := q
 obtain ⟨hl, hb⟩ := hq
 dsimp only at hl hb ⊢
 have e1 : Ba (l, ()) b = A6 (l, ()) b := rfl
 have e2 : Bu (l, ()) b = A6 (l, ()) b := rfl
 have hv := Mg (l, ()) b
 have hn := Cb hv
 have ew : ∀ s : Stt, s.1.length ≤ 100 → Ct s s = some true := fun s hs => by
  have : Ct s s = some (eqL (fun x y : Pr2 => m5 An x y) s.1 s.1) := if_pos (Nat.le_trans hs (by decide))
  rw [this, show eqL (fun x y : Pr2 => m5 An x y) s.1 s.1 = true from Uz (fun x => P7 An x) _]
 rw [e1, e2, ew _ hn]
 refine Ah.no (by simp) ?_
 simp only [Option.bind_some, Bool.not_true, cond_false]
 refine Ah.cond (fun c => ?_) fun c => ?_
 ·refine Ah.some ?_
  have c := bne_iff_ne.1 c
  show (nI (A6 (l, ()) b).1.1.length == 0) = true
  rw [Acb c]
  rfl
 ·have hc : (A6 (l, ()) b).2 = 0 := by
   have := bne_eq_false_iff_eq.1 c
   exact this
  refine Ah.bind (X0 (l, ()) b (A6 (l, ()) b).1.1 (by omega) hc _ 0 (by simp only [Dn]; omega) (by omega)) fun q hq => ?_
  subst hq
  dsimp only [Eb]
  have hs := Xo (A6 (l, ()) b).1
  have eS : Cn ((A6 (l, ()) b).1.1, ()) = Cx (A6 (l, ()) b).1 := rfl
  rw [eS]
  refine Ah.bind (X5 (A6 (l, ()) b).1.1 (A6 (l, ()) b).1.1 (Cx (A6 (l, ()) b).1) hs _ 0 0 [] (A6 (l, ()) b).1.1 (by simp only [Do]; omega) (by omega) (by omega) (x8 hv) hv) fun q hq => ?_
  subst hq
  dsimp only [Eb]
  have e3 := ew (A6 (l, ()) b).1 hn
  refine (Ah.bind (Q := fun q => q = ((true, ()), ())) ?_ fun q hq => ?_)
  ·rw [List.nil_append]
   show Ah ((Ct (A6 (l, ()) b).1 (A6 (l, ()) b).1).bind _) _
   rw [e3]
   exact Ah.some rfl
  ·subst hq
   refine Ah.go (by rfl) (Ah.go ?_ (Ah.some hv))
   show (0 + ((Cx (A6 (l, ()) b).1).map fun b => C8 (Ed b).size 8).sum == Xp (A6 (l, ()) b).1 8) = true
   unfold Xp
   rw [show M8 8 1 8 = true from rfl, cond_true, Int.zero_add]
   exact beq_self_eq_true _
noncomputable def Hk {R : Type} (k : Kt R) := (Eb (Nc (pa_laws_FnStates 12) (.exit 0) 2 k) (Nc (pa_laws_FnStates 12) .ret 1 k))
noncomputable def Hl {R : Type} (k : Kt R) := (Nc (pa_laws_FnStates 16) (.exit 2) 4 k)
noncomputable def Hm {R : Type} (k : Kt R) := (Eb (Nc (pa_laws_FnStates 27) (.exit 4) 6 k) (Nc (pa_laws_FnStates 27) .ret 1 k))
noncomputable def Fa {R : Type} : Lt R pa_laws_FnStates := (Hb (pat := pa_laws_FnStates) 12 (fun d k => (B3 (Dn d.1 d.2.1 d.2.2.1 d.2.2.2.1) d.1 d.2.1 d.2.2.1 d.2.2.2.1).bind (Hk k)) (Hb (pat := pa_laws_FnStates) 16 (fun d k => (Dr d).bind (Hl k)) (Hb (pat := pa_laws_FnStates) 27 (fun d k => (B2 (Do d.1 d.2.1 d.2.2.1 d.2.2.2.1 d.2.2.2.2.1 d.2.2.2.2.2.1) d.1 d.2.1 d.2.2.1 d.2.2.2.1 d.2.2.2.2.1 d.2.2.2.2.2.1).bind (Hm k)) O6)))
theorem E2 : Az Try.prog ta_laws_FnStates := Dz ⟨J1, I0, Nr, Qf, Wf, Nu, Vq, l7, Zm, D1, trivial⟩
theorem Nh {R : Type} : Bb Try.prog R 160 0 pa_laws_FnStates Fa co_laws_FnStates_27 :=
 Ec (cfg := ⟨ta_laws_FnStates, 0, 160, pa_laws_FnStates⟩) 27 [] (fun NX X d => Dp  NX (fun e => X (.inl (e))) (fun e => X (.inr (e))) d.1 d.2.1 d.2.2.1 d.2.2.2.1 d.2.2.2.2.1 d.2.2.2.2.2.1) (fun m d => B2 m d.1 d.2.1 d.2.2.1 d.2.2.2.1 d.2.2.2.2.1 d.2.2.2.2.2.1) (fun d => Do d.1 d.2.1 d.2.2.1 d.2.2.2.1 d.2.2.2.2.1 d.2.2.2.2.2.1) Hm E2 trivial (fun f NX d => by unfold Dp; simp only [A2, A9, Au, Option.bind_assoc, Option.bind_none, Option.bind_some]) (fun _ _ _ => by kernel_rfl)
theorem Ni {R : Type} : Bb Try.prog R 160 0 pa_laws_FnStates Fa co_laws_FnStates_16 :=
 Ec (cfg := ⟨ta_laws_FnStates, 0, 160, pa_laws_FnStates⟩) 16 [] (fun NX X d => Dq  NX X d.1 d.2.1 d.2.2.1 d.2.2.2.1 d.2.2.2.2.1 d.2.2.2.2.2.1) (fun m d => Cr m d.1 d.2.1 d.2.2.1 d.2.2.2.1 d.2.2.2.2.1 d.2.2.2.2.2.1) (fun d => E4 d.1 d.2.1 d.2.2.1 d.2.2.2.1 d.2.2.2.2.1 d.2.2.2.2.2.1) Hl E2 trivial (fun f NX d => by unfold Dq; simp only [A2, A9, Au, Option.bind_assoc, Option.bind_none, Option.bind_some]) (fun _ _ _ => by kernel_rfl)
theorem Nj {R : Type} : Bb Try.prog R 160 0 pa_laws_FnStates Fa co_laws_FnStates_12 :=
 Ec (cfg := ⟨ta_laws_FnStates, 0, 160, pa_laws_FnStates⟩) 12 [co_laws_FnStates_16] (fun NX X d => Ds Dr NX (fun e => X (.inl (e))) (fun e => X (.inr (e))) d.1 d.2.1 d.2.2.1 d.2.2.2.1) (fun m d => B3 m d.1 d.2.1 d.2.2.1 d.2.2.2.1) (fun d => Dn d.1 d.2.1 d.2.2.1 d.2.2.2.1) Hk E2 ⟨Ni, trivial⟩ (fun f NX d => by unfold Ds; simp only [A2, A9, Au, Option.bind_assoc, Option.bind_none, Option.bind_some]) (fun _ _ _ => by kernel_rfl)
theorem Ro : Fr Try.prog 8 sd_laws_FnStates :=
 Dl (pat := pa_laws_FnStates) [co_laws_FnStates_12, co_laws_FnStates_27] Fa E2 ⟨Nj, Nh, trivial⟩ Try.func8 (de := fun x => E1 x.1) (fun x r h => h) fun _ => by kernel_rfl
end Go.Proofs.Ytkfoebbjncngjaa.V

