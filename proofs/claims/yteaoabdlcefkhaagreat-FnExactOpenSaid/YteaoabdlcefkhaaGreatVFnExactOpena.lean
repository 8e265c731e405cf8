/- What the functions that FnExactOpen reaches come to: part 1. No condition. -/
import Derived.Test.YteaoabdlcefkhaaGreatQBase
import Derived.Test.YteaoabdlcefkhaaGreatTLay
import Derived.Test.YteaoabdlcefkhaaGreatProg
import Derived.Test.YteaoabdlcefkhaaGreatQS
import Derived.Test.YteaoabdlcefkhaaGreatQA
import Derived.Test.YteaoabdlcefkhaaGreatQT
import Derived.Test.YteaoabdlcefkhaaGreatQO
import Derived.Test.YteaoabdlcefkhaaGreatTSort
import Derived.KernelRfl
namespace Go.Proofs.YteaoabdlcefkhaaGreat.V
open Go Go.Proofs.YteaoabdlcefkhaaGreat.R Go.Proofs
set_option maxRecDepth 100000
set_option linter.unusedVariables false
set_option linter.unusedSimpArgs false
def Oj (a b : Pr2) : Option Bool := eqM Aq a b
def Akl : Sig := ⟨[.rd Aq, .rd Aq], [some 2, some 2], [.rd .bool], [none]⟩
noncomputable def sd_laws_eqPair : SD := ⟨Akl, fun x => (Oj x.1 x.2.1).bind fun r => some ((r, ()), (()))⟩
noncomputable def Qr (a0 : Pr2) (a1 : Pr2) : Option ((((Bool) × Unit) × (Unit))) :=
 bif !ByteArray.toList a0.1 == ByteArray.toList a1.1 then some ((false, ()), ()) else bif !ByteArray.toList a0.2.1 == ByteArray.toList a1.2.1 then some ((false, ()), ()) else some ((true, ()), ())
theorem Akm (a0 : Pr2) (a1 : Pr2) r (h : Oj a0 a1 = some r) : Qr a0 a1 = some ((r, ()), (())) := by
 obtain ⟨hc, hd, rfl⟩ := Jb (t := Aq) h
 obtain ⟨hc0, hc1, _⟩ : A4 .str a0.1 = true ∧ A4 .str a0.2.1 = true ∧ True := by
  have s := hc
  obtain ⟨h0, s⟩ := Aj s
  obtain ⟨h1, s⟩ := Aj s
  exact ⟨h0, h1, trivial⟩
 obtain ⟨hd0, hd1, _⟩ : A4 .str a1.1 = true ∧ A4 .str a1.2.1 = true ∧ True := by
  have s := hd
  obtain ⟨h0, s⟩ := Aj s
  obtain ⟨h1, s⟩ := Aj s
  exact ⟨h0, h1, trivial⟩
 unfold Qr
 have e0 : (!(ByteArray.toList a0.1 == ByteArray.toList a1.1)) = !eqS a0.1 a1.1 := rfl
 have e1 : (!(ByteArray.toList a0.2.1 == ByteArray.toList a1.2.1)) = !eqS a0.2.1 a1.2.1 := rfl
 simp only [e0, e1, Option.bind_some]
 show _ = some (((eqS a0.1 a1.1 && (eqS a0.2.1 a1.2.1 && true)), ()), ())
 generalize eqS a0.1 a1.1 = p0
 generalize eqS a0.2.1 a1.2.1 = p1
 cases p0 <;> cases p1 <;> rfl
theorem Akn : Bo Tryz.prog 193 sd_laws_eqPair :=
 At (pat := Cr) [] Fu (Au (l := []) trivial) trivial Tryz.func193 (de := fun x => Qr x.1 x.2.1) (fun x r h => Az (Akm x.1 x.2.1) h) fun _ => by kernel_rfl
def Me (a b : List Pr2) : Option Bool := eqM (.sl Aq) a b
def Agu : Sig := ⟨[.rd (.sl Aq), .rd (.sl Aq)], [none, none], [.rd .bool], [none]⟩
noncomputable def sd_laws_eqPairS : SD := ⟨Agu, fun x => (Me x.1 x.2.1).bind fun r => some ((r, ()), (()))⟩
noncomputable def ta_laws_eqPairS : Tb := tb [(193, sd_laws_eqPair)]
def pa_laws_eqPairS : Nat → Pat × (Nat → Pat) := Fe [(5, ⟨[.sl 0 0 Aq, .sl 1 0 Aq], [(0, .lf (.d (.sl Aq))), (1, .lf (.d (.sl Aq))), (5, .lf (.d tI))], []⟩, [(2, p0), (1, ⟨[], [(4, .lf (.d .bool))], []⟩)])]
noncomputable def co_laws_eqPairS_5 : Code := (Ao (A8 Tryz.f128)).getD 0 .skip
def Ei (v0 : List Pr2) (v1 : List Pr2) (v5 : Int) : Nat := ((v0.length : Int) - v5).toNat + 1
noncomputable def Hp {R : Type}  (NX : ((List Pr2) × (List Pr2) × (Int) × Unit) → Option R) (X2 : (Unit) → Option R) (X1 : ((Bool) × Unit) → Option R) (v0 : List Pr2) (v1 : List Pr2) (v5 : Int) : Option R :=
 bif decide (v5 < nI v0.length) then bif decide (0 ≤ v5) then bif decide (v5 < nI v0.length) then bif decide (0 ≤ v5) then bif decide (v5 < nI v1.length) then ((Oj (v0.getD v5.toNat (ByteArray.mk #[], ByteArray.mk #[], ())) (v1.getD v5.toNat (ByteArray.mk #[], ByteArray.mk #[], ()))).bind fun val => some ((val, ()), ())).bind fun val => bif !val.1.1 then X1 (false, ()) else NX (v0, v1, IntKind.i64.wrap (v5 + 1), ()) else none else none else none else none else X2 PUnit.unit
noncomputable def B3 : Nat → (List Pr2) → (List Pr2) → (Int) →  Option ((Unit) ⊕ ((Bool) × Unit))
 | 0, _, _, _ => none
 | m + 1, v0, v1, v5 => Hp  (fun d => B3 m d.1 d.2.1 d.2.2.1) (fun d => some (.inl (d))) (fun d => some (.inr (d))) v0 v1 v5
noncomputable def O6 (a0 : List Pr2) (a1 : List Pr2) : Option ((((Bool) × Unit) × (Unit))) :=
 bif nI a0.length != nI a1.length then some ((false, ()), ()) else ((fun d => B3 (Ei d.1 d.2.1 d.2.2.1) d.1 d.2.1 d.2.2.1) (a0, a1, 0, ())).bind fun val => Cs (fun val => some ((true, ()), ())) (fun val => some (val, ())) val
theorem Agv (a0 : List Pr2) (a1 : List Pr2) r (h : Me a0 a1 = some r) : O6 a0 a1 = some ((r, ()), (())) := by
 obtain ⟨hc, hd, rfl⟩ := Jb (t := .sl Aq) h
 obtain ⟨hlx0, hx⟩ := Ks hc
 obtain ⟨hly0, hy⟩ := Ks hd
 have hlx : a0.length < 1152921504606846976 := hlx0
 have hly : a1.length < 1152921504606846976 := hly0
 clear hlx0 hly0 hc hd h
 ·unfold O6
  by_cases hl : a1.length = a0.length
  ·have c1 : (nI a0.length != nI a1.length) = false := by simp [nI, hl]
   have hL := Aar (xs := a0) (ys := a1) ((ByteArray.mk #[]), (ByteArray.mk #[]), ()) (fun x y : Pr2 => Lv Aq x y) (g := fun m i => B3 m a0 a1 i) (ok := .inl ()) (bad := .inr (false, ())) hl (fun m i hi => by
    show B3 (m + 1) a0 a1 i = _
    simp only [B3, Hp]
    rw [Ou hi, F2, Ou (show i < a1.length by omega), wI (by omega)]
    simp only [cond_true, Int.toNat_natCast]
    have f1 : A4 Aq (List.getD (α := Pr2) a0 i ((ByteArray.mk #[]), (ByteArray.mk #[]), ())) = true := hx _ (Ot ((ByteArray.mk #[]), (ByteArray.mk #[]), ()) hi)
    have f2 : A4 Aq (List.getD (α := Pr2) a1 i ((ByteArray.mk #[]), (ByteArray.mk #[]), ())) = true := hy _ (Ot ((ByteArray.mk #[]), (ByteArray.mk #[]), ()) (by omega))
    have hE : Oj (List.getD (α := Pr2) a0 i ((ByteArray.mk #[]), (ByteArray.mk #[]), ())) (List.getD (α := Pr2) a1 i ((ByteArray.mk #[]), (ByteArray.mk #[]), ())) = some (Lv Aq (List.getD (α := Pr2) a0 i ((ByteArray.mk #[]), (ByteArray.mk #[]), ())) (List.getD (α := Pr2) a1 i ((ByteArray.mk #[]), (ByteArray.mk #[]), ()))) := by
     exact Ta (t := Aq) (x := (List.getD (α := Pr2) a0 i ((ByteArray.mk #[]), (ByteArray.mk #[]), ()))) (y := (List.getD (α := Pr2) a1 i ((ByteArray.mk #[]), (ByteArray.mk #[]), ()))) f1 f2
    rw [hE]
    cases q : Lv Aq (List.getD (α := Pr2) a0 i ((ByteArray.mk #[]), (ByteArray.mk #[]), ())) (List.getD (α := Pr2) a1 i ((ByteArray.mk #[]), (ByteArray.mk #[]), ())) <;> simp only [Option.bind_some, q] <;> rfl) (fun m => by
    show B3 (m + 1) a0 a1 a0.length = _
    simp only [B3, Hp]
    rw [I0]
    rfl) (Ei a0 a1 0) 0 (by omega) (by simp [Ei])
   rw [c1]
   have hL' : B3 (Ei a0 a1 0) a0 a1 0 = _ := hL
   show (B3 (Ei a0 a1 0) a0 a1 0).bind _ = some ((eqL (α := Pr2) (fun x y : Pr2 => Lv Aq x y) a0 a1, ()), ())
   rw [hL', List.drop_zero, List.drop_zero]
   cases eqL (α := Pr2) (fun x y : Pr2 => Lv Aq x y) a0 a1 <;> rfl
  ·have c1 : (nI a0.length != nI a1.length) = true := by simp [nI]; omega
   rw [c1]
   show _ = some ((eqL (α := Pr2) (fun x y : Pr2 => Lv Aq x y) a0 a1, ()), ())
   rw [Aaq (fun q => hl q.symm)]
   rfl
noncomputable def Sc {R : Type} (k : Kt R) := (Cs (Iz (pa_laws_eqPairS 5) (.exit 0) 2 k) (Iz (pa_laws_eqPairS 5) .ret 1 k))
noncomputable def X9 {R : Type} : Lt R pa_laws_eqPairS := (Ef (pat := pa_laws_eqPairS) 5 (fun d k => (B3 (Ei d.1 d.2.1 d.2.2.1) d.1 d.2.1 d.2.2.1).bind (Sc k)) Fu)
theorem Wi : As Tryz.prog ta_laws_eqPairS := Au ⟨Akn, trivial⟩
theorem Aa1 {R : Type} : Ay Tryz.prog R 27 0 pa_laws_eqPairS X9 co_laws_eqPairS_5 :=
 B6 (cfg := ⟨ta_laws_eqPairS, 0, 27, pa_laws_eqPairS⟩) 5 [] (fun NX X d => Hp  NX (fun e => X (.inl (e))) (fun e => X (.inr (e))) d.1 d.2.1 d.2.2.1) (fun m d => B3 m d.1 d.2.1 d.2.2.1) (fun d => Ei d.1 d.2.1 d.2.2.1) Sc Wi trivial (fun f NX d => by unfold Hp; simp only [Am, Ap, Ah, Option.bind_assoc, Option.bind_none, Option.bind_some]) (fun _ _ _ => by kernel_rfl)
theorem Agw : Bo Tryz.prog 128 sd_laws_eqPairS :=
 At (pat := pa_laws_eqPairS) [co_laws_eqPairS_5] X9 Wi ⟨Aa1, trivial⟩ Tryz.func128 (de := fun x => O6 x.1 x.2.1) (fun x r h => Az (Agv x.1 x.2.1) h) fun _ => by kernel_rfl
def Jx (a b : Stt) : Option Bool := eqM Py a b
def Agx : Sig := ⟨[.rd Py, .rd Py], [some 1, some 1], [.rd .bool], [none]⟩
noncomputable def sd_laws_eqState : SD := ⟨Agx, fun x => (Jx x.1 x.2.1).bind fun r => some ((r, ()), (()))⟩
noncomputable def O7 (a0 : Stt) (a1 : Stt) : Option ((((Bool) × Unit) × (Unit))) :=
 ((Me a0.1 a1.1).bind fun val => some ((val, ()), ())).bind fun val => bif !val.1.1 then some ((false, ()), ()) else some ((true, ()), ())
theorem Agy (a0 : Stt) (a1 : Stt) r (h : Jx a0 a1 = some r) : O7 a0 a1 = some ((r, ()), (())) := by
 obtain ⟨hc, hd, rfl⟩ := Jb (t := Py) h
 obtain ⟨hc0, _⟩ : A4 (.sl Aq) a0.1 = true ∧ True := by
  have s := hc
  obtain ⟨h0, s⟩ := Aj s
  exact ⟨h0, trivial⟩
 obtain ⟨hd0, _⟩ : A4 (.sl Aq) a1.1 = true ∧ True := by
  have s := hd
  obtain ⟨h0, s⟩ := Aj s
  exact ⟨h0, trivial⟩
 unfold O7
 have e0 : Me a0.1 a1.1 = some (Lv (.sl Aq) a0.1 a1.1) := Ta (t := (.sl Aq)) hc0 hd0
 simp only [e0, Option.bind_some]
 show _ = some (((Lv (.sl Aq) a0.1 a1.1 && true), ()), ())
 generalize Lv (.sl Aq) a0.1 a1.1 = p0
 cases p0 <;> rfl
theorem Agz : Bo Tryz.prog 41 sd_laws_eqState :=
 At (pat := Cr) [] Fu (Au (l := [(128, sd_laws_eqPairS)]) ⟨Agw, trivial⟩) trivial Tryz.func41 (de := fun x => O7 x.1 x.2.1) (fun x r h => Az (Agy x.1 x.2.1) h) fun _ => by kernel_rfl
def d8 (a b : Rt) : Option Bool := eqM yRt a b
def Ako : Sig := ⟨[.rd yRt, .rd yRt], [some 4, some 4], [.rd .bool], [none]⟩
noncomputable def sd_laws_eqRoot : SD := ⟨Ako, fun x => (d8 x.1 x.2.1).bind fun r => some ((r, ()), (()))⟩
noncomputable def Qs (a0 : Rt) (a1 : Rt) : Option ((((Bool) × Unit) × (Unit))) :=
 bif a0.1 != a1.1 then some ((false, ()), ()) else bif a0.2.1 != a1.2.1 then some ((false, ()), ()) else bif a0.2.2.1 != a1.2.2.1 then some ((false, ()), ()) else bif a0.2.2.2.1 != a1.2.2.2.1 then some ((false, ()), ()) else some ((true, ()), ())
theorem Akp (a0 : Rt) (a1 : Rt) r (h : d8 a0 a1 = some r) : Qs a0 a1 = some ((r, ()), (())) := by
 obtain ⟨hc, hd, rfl⟩ := Jb (t := yRt) h
 obtain ⟨hc0, hc1, hc2, hc3, _⟩ : A4 tI a0.1 = true ∧ A4 tI a0.2.1 = true ∧ A4 tI a0.2.2.1 = true ∧ A4 tI a0.2.2.2.1 = true ∧ True := by
  have s := hc
  obtain ⟨h0, s⟩ := Aj s
  obtain ⟨h1, s⟩ := Aj s
  obtain ⟨h2, s⟩ := Aj s
  obtain ⟨h3, s⟩ := Aj s
  exact ⟨h0, h1, h2, h3, trivial⟩
 obtain ⟨hd0, hd1, hd2, hd3, _⟩ : A4 tI a1.1 = true ∧ A4 tI a1.2.1 = true ∧ A4 tI a1.2.2.1 = true ∧ A4 tI a1.2.2.2.1 = true ∧ True := by
  have s := hd
  obtain ⟨h0, s⟩ := Aj s
  obtain ⟨h1, s⟩ := Aj s
  obtain ⟨h2, s⟩ := Aj s
  obtain ⟨h3, s⟩ := Aj s
  exact ⟨h0, h1, h2, h3, trivial⟩
 unfold Qs
 have e0 : (a0.1 != a1.1) = !R6 a0.1 a1.1 := Aau _ _
 have e1 : (a0.2.1 != a1.2.1) = !R6 a0.2.1 a1.2.1 := Aau _ _
 have e2 : (a0.2.2.1 != a1.2.2.1) = !R6 a0.2.2.1 a1.2.2.1 := Aau _ _
 have e3 : (a0.2.2.2.1 != a1.2.2.2.1) = !R6 a0.2.2.2.1 a1.2.2.2.1 := Aau _ _
 simp only [e0, e1, e2, e3, Option.bind_some]
 show _ = some (((R6 a0.1 a1.1 && (R6 a0.2.1 a1.2.1 && (R6 a0.2.2.1 a1.2.2.1 && (R6 a0.2.2.2.1 a1.2.2.2.1 && true)))), ()), ())
 generalize R6 a0.1 a1.1 = p0
 generalize R6 a0.2.1 a1.2.1 = p1
 generalize R6 a0.2.2.1 a1.2.2.1 = p2
 generalize R6 a0.2.2.2.1 a1.2.2.2.1 = p3
 cases p0 <;> cases p1 <;> cases p2 <;> cases p3 <;> rfl
theorem Akq : Bo Tryz.prog 97 sd_laws_eqRoot :=
 At (pat := Cr) [] Fu (Au (l := []) trivial) trivial Tryz.func97 (de := fun x => Qs x.1 x.2.1) (fun x r h => Az (Akp x.1 x.2.1) h) fun _ => by kernel_rfl
def Jy (a b : Sto) : Option Bool := eqM m7 a b
def Ag0 : Sig := ⟨[.rd m7, .rd m7], [some 10, some 10], [.rd .bool], [none]⟩
noncomputable def sd_laws_eqStore : SD := ⟨Ag0, fun x => (Jy x.1 x.2.1).bind fun r => some ((r, ()), (()))⟩
noncomputable def O8 (a0 : Sto) (a1 : Sto) : Option ((((Bool) × Unit) × (Unit))) :=
 bif a0.1 != a1.1 then some ((false, ()), ()) else bif a0.2.1 != a1.2.1 then some ((false, ()), ()) else bif a0.2.2.1 != a1.2.2.1 then some ((false, ()), ()) else bif !(decide (a0.2.2.2.1.1 = a1.2.2.2.1.1) && (decide (a0.2.2.2.1.2.1 = a1.2.2.2.1.2.1) && (decide (a0.2.2.2.1.2.2.1 = a1.2.2.2.1.2.2.1) && (decide (a0.2.2.2.1.2.2.2.1 = a1.2.2.2.1.2.2.2.1) && true)))) then some ((false, ()), ()) else bif a0.2.2.2.2.1 != a1.2.2.2.2.1 then some ((false, ()), ()) else bif a0.2.2.2.2.2.1 != a1.2.2.2.2.2.1 then some ((false, ()), ()) else ((Jx a0.2.2.2.2.2.2.1 a1.2.2.2.2.2.2.1).bind fun val => some ((val, ()), ())).bind fun val => bif !val.1.1 then some ((false, ()), ()) else some ((true, ()), ())
theorem Ag1 (a0 : Sto) (a1 : Sto) r (h : Jy a0 a1 = some r) : O8 a0 a1 = some ((r, ()), (())) := by
 obtain ⟨hc, hd, rfl⟩ := Jb (t := m7) h
 obtain ⟨hc0, hc1, hc2, hc3, hc4, hc5, hc6, _⟩ : A4 tI a0.1 = true ∧ A4 tI a0.2.1 = true ∧ A4 tI a0.2.2.1 = true ∧ A4 yRt a0.2.2.2.1 = true ∧ A4 tI a0.2.2.2.2.1 = true ∧ A4 tI a0.2.2.2.2.2.1 = true ∧ A4 Py a0.2.2.2.2.2.2.1 = true ∧ True := by
  have s := hc
  obtain ⟨h0, s⟩ := Aj s
  obtain ⟨h1, s⟩ := Aj s
  obtain ⟨h2, s⟩ := Aj s
  obtain ⟨h3, s⟩ := Aj s
  obtain ⟨h4, s⟩ := Aj s
  obtain ⟨h5, s⟩ := Aj s
  obtain ⟨h6, s⟩ := Aj s
  exact ⟨h0, h1, h2, h3, h4, h5, h6, trivial⟩
 obtain ⟨hd0, hd1, hd2, hd3, hd4, hd5, hd6, _⟩ : A4 tI a1.1 = true ∧ A4 tI a1.2.1 = true ∧ A4 tI a1.2.2.1 = true ∧ A4 yRt a1.2.2.2.1 = true ∧ A4 tI a1.2.2.2.2.1 = true ∧ A4 tI a1.2.2.2.2.2.1 = true ∧ A4 Py a1.2.2.2.2.2.2.1 = true ∧ True := by
  have s := hd
  obtain ⟨h0, s⟩ := Aj s
  obtain ⟨h1, s⟩ := Aj s
  obtain ⟨h2, s⟩ := Aj s
  obtain ⟨h3, s⟩ := Aj s
  obtain ⟨h4, s⟩ := Aj s
  obtain ⟨h5, s⟩ := Aj s
  obtain ⟨h6, s⟩ := Aj s
  exact ⟨h0, h1, h2, h3, h4, h5, h6, trivial⟩
 unfold O8
 have e0 : (a0.1 != a1.1) = !R6 a0.1 a1.1 := Aau _ _
 have e1 : (a0.2.1 != a1.2.1) = !R6 a0.2.1 a1.2.1 := Aau _ _
 have e2 : (a0.2.2.1 != a1.2.2.1) = !R6 a0.2.2.1 a1.2.2.1 := Aau _ _
 have e4 : (a0.2.2.2.2.1 != a1.2.2.2.2.1) = !R6 a0.2.2.2.2.1 a1.2.2.2.2.1 := Aau _ _
 have e5 : (a0.2.2.2.2.2.1 != a1.2.2.2.2.2.1) = !R6 a0.2.2.2.2.2.1 a1.2.2.2.2.2.1 := Aau _ _
 have e6 : Jx a0.2.2.2.2.2.2.1 a1.2.2.2.2.2.2.1 = some (Lv Py a0.2.2.2.2.2.2.1 a1.2.2.2.2.2.2.1) := Ta (t := Py) hc6 hd6
 have e6 : Jx a0.2.2.2.2.2.2.1 a1.2.2.2.2.2.2.1 = some (Lv Py a0.2.2.2.2.2.2.1 a1.2.2.2.2.2.2.1) := e6
 simp only [e0, e1, e2, e4, e5, e6, Option.bind_some]
 show _ = some (((R6 a0.1 a1.1 && (R6 a0.2.1 a1.2.1 && (R6 a0.2.2.1 a1.2.2.1 && ((decide (a0.2.2.2.1.1 = a1.2.2.2.1.1) && (decide (a0.2.2.2.1.2.1 = a1.2.2.2.1.2.1) && (decide (a0.2.2.2.1.2.2.1 = a1.2.2.2.1.2.2.1) && (decide (a0.2.2.2.1.2.2.2.1 = a1.2.2.2.1.2.2.2.1) && true)))) && (R6 a0.2.2.2.2.1 a1.2.2.2.2.1 && (R6 a0.2.2.2.2.2.1 a1.2.2.2.2.2.1 && (Lv Py a0.2.2.2.2.2.2.1 a1.2.2.2.2.2.2.1 && true))))))), ()), ())
 generalize R6 a0.1 a1.1 = p0
 generalize R6 a0.2.1 a1.2.1 = p1
 generalize R6 a0.2.2.1 a1.2.2.1 = p2
 generalize (decide (a0.2.2.2.1.1 = a1.2.2.2.1.1) && (decide (a0.2.2.2.1.2.1 = a1.2.2.2.1.2.1) && (decide (a0.2.2.2.1.2.2.1 = a1.2.2.2.1.2.2.1) && (decide (a0.2.2.2.1.2.2.2.1 = a1.2.2.2.1.2.2.2.1) && true)))) = p3
 generalize R6 a0.2.2.2.2.1 a1.2.2.2.2.1 = p4
 generalize R6 a0.2.2.2.2.2.1 a1.2.2.2.2.2.1 = p5
 generalize Lv Py a0.2.2.2.2.2.2.1 a1.2.2.2.2.2.2.1 = p6
 cases p0 <;> cases p1 <;> cases p2 <;> cases p3 <;> cases p4 <;> cases p5 <;> cases p6 <;> rfl
theorem Ag2 : Bo Tryz.prog 22 sd_laws_eqStore :=
 At (pat := Cr) [] Fu (Au (l := [(41, sd_laws_eqState), (97, sd_laws_eqRoot)]) ⟨Agz, Akq, trivial⟩) trivial Tryz.func22 (de := fun x => O8 x.1 x.2.1) (fun x r h => Az (Ag1 x.1 x.2.1) h) fun _ => by kernel_rfl
def Sd (a b : Opn) : Option Bool := eqM B7 a b
def Ap6 : Sig := ⟨[.rd B7, .rd B7], [some 3, some 3], [.rd .bool], [none]⟩
noncomputable def sd_laws_eqOp : SD := ⟨Ap6, fun x => (Sd x.1 x.2.1).bind fun r => some ((r, ()), (()))⟩
noncomputable def V2 (a0 : Opn) (a1 : Opn) : Option ((((Bool) × Unit) × (Unit))) :=
 bif !a0.1 == a1.1 then some ((false, ()), ()) else bif a0.2.1 != a1.2.1 then some ((false, ()), ()) else bif !ByteArray.toList a0.2.2.1 == ByteArray.toList a1.2.2.1 then some ((false, ()), ()) else some ((true, ()), ())
theorem Ap7 (a0 : Opn) (a1 : Opn) r (h : Sd a0 a1 = some r) : V2 a0 a1 = some ((r, ()), (())) := by
 obtain ⟨hc, hd, rfl⟩ := Jb (t := B7) h
 obtain ⟨hc0, hc1, hc2, _⟩ : A4 .bool a0.1 = true ∧ A4 tI a0.2.1 = true ∧ A4 .str a0.2.2.1 = true ∧ True := by
  have s := hc
  obtain ⟨h0, s⟩ := Aj s
  obtain ⟨h1, s⟩ := Aj s
  obtain ⟨h2, s⟩ := Aj s
  exact ⟨h0, h1, h2, trivial⟩
 obtain ⟨hd0, hd1, hd2, _⟩ : A4 .bool a1.1 = true ∧ A4 tI a1.2.1 = true ∧ A4 .str a1.2.2.1 = true ∧ True := by
  have s := hd
  obtain ⟨h0, s⟩ := Aj s
  obtain ⟨h1, s⟩ := Aj s
  obtain ⟨h2, s⟩ := Aj s
  exact ⟨h0, h1, h2, trivial⟩
 unfold V2
 have e0 : (!(a0.1 == a1.1)) = !eqO a0.1 a1.1 := rfl
 have e1 : (a0.2.1 != a1.2.1) = !R6 a0.2.1 a1.2.1 := Aau _ _
 have e2 : (!(ByteArray.toList a0.2.2.1 == ByteArray.toList a1.2.2.1)) = !eqS a0.2.2.1 a1.2.2.1 := rfl
 simp only [e0, e1, e2, Option.bind_some]
 show _ = some (((eqO a0.1 a1.1 && (R6 a0.2.1 a1.2.1 && (eqS a0.2.2.1 a1.2.2.1 && true))), ()), ())
 generalize eqO a0.1 a1.1 = p0
 generalize R6 a0.2.1 a1.2.1 = p1
 generalize eqS a0.2.2.1 a1.2.2.1 = p2
 cases p0 <;> cases p1 <;> cases p2 <;> rfl
theorem Ap8 : Bo Tryz.prog 177 sd_laws_eqOp :=
 At (pat := Cr) [] Fu (Au (l := []) trivial) trivial Tryz.func177 (de := fun x => V2 x.1 x.2.1) (fun x r h => Az (Ap7 x.1 x.2.1) h) fun _ => by kernel_rfl
def P3 (a b : List Opn) : Option Bool := eqM (.sl B7) a b
def Amm : Sig := ⟨[.rd (.sl B7), .rd (.sl B7)], [none, none], [.rd .bool], [none]⟩
noncomputable def sd_laws_eqOpS : SD := ⟨Amm, fun x => (P3 x.1 x.2.1).bind fun r => some ((r, ()), (()))⟩
noncomputable def ta_laws_eqOpS : Tb := tb [(177, sd_laws_eqOp)]
def pa_laws_eqOpS : Nat → Pat × (Nat → Pat) := Fe [(5, ⟨[.sl 0 0 B7, .sl 1 0 B7], [(0, .lf (.d (.sl B7))), (1, .lf (.d (.sl B7))), (5, .lf (.d tI))], []⟩, [(2, p0), (1, ⟨[], [(4, .lf (.d .bool))], []⟩)])]
noncomputable def co_laws_eqOpS_5 : Code := (Ao (A8 Tryz.f96)).getD 0 .skip
def F3 (v0 : List Opn) (v1 : List Opn) (v5 : Int) : Nat := ((v0.length : Int) - v5).toNat + 1
noncomputable def Jc {R : Type}  (NX : ((List Opn) × (List Opn) × (Int) × Unit) → Option R) (X2 : (Unit) → Option R) (X1 : ((Bool) × Unit) → Option R) (v0 : List Opn) (v1 : List Opn) (v5 : Int) : Option R :=
 bif decide (v5 < nI v0.length) then bif decide (0 ≤ v5) then bif decide (v5 < nI v0.length) then bif decide (0 ≤ v5) then bif decide (v5 < nI v1.length) then ((Sd (v0.getD v5.toNat (false, 0, ByteArray.mk #[], ())) (v1.getD v5.toNat (false, 0, ByteArray.mk #[], ()))).bind fun val => some ((val, ()), ())).bind fun val => bif !val.1.1 then X1 (false, ()) else NX (v0, v1, IntKind.i64.wrap (v5 + 1), ()) else none else none else none else none else X2 PUnit.unit
noncomputable def Co : Nat → (List Opn) → (List Opn) → (Int) →  Option ((Unit) ⊕ ((Bool) × Unit))
 | 0, _, _, _ => none
 | m + 1, v0, v1, v5 => Jc  (fun d => Co m d.1 d.2.1 d.2.2.1) (fun d => some (.inl (d))) (fun d => some (.inr (d))) v0 v1 v5
noncomputable def Te (a0 : List Opn) (a1 : List Opn) : Option ((((Bool) × Unit) × (Unit))) :=
 bif nI a0.length != nI a1.length then some ((false, ()), ()) else ((fun d => Co (F3 d.1 d.2.1 d.2.2.1) d.1 d.2.1 d.2.2.1) (a0, a1, 0, ())).bind fun val => Cs (fun val => some ((true, ()), ())) (fun val => some (val, ())) val
theorem Amn (a0 : List Opn) (a1 : List Opn) r (h : P3 a0 a1 = some r) : Te a0 a1 = some ((r, ()), (())) := by
 obtain ⟨hc, hd, rfl⟩ := Jb (t := .sl B7) h
 obtain ⟨hlx0, hx⟩ := Ks hc
 obtain ⟨hly0, hy⟩ := Ks hd
 have hlx : a0.length < 1152921504606846976 := hlx0
 have hly : a1.length < 1152921504606846976 := hly0
 clear hlx0 hly0 hc hd h
 ·unfold Te
  by_cases hl : a1.length = a0.length
  ·have c1 : (nI a0.length != nI a1.length) = false := by simp [nI, hl]
   have hL := Aar (xs := a0) (ys := a1) (false, 0, (ByteArray.mk #[]), ()) (fun x y : Opn => Lv B7 x y) (g := fun m i => Co m a0 a1 i) (ok := .inl ()) (bad := .inr (false, ())) hl (fun m i hi => by
    show Co (m + 1) a0 a1 i = _
    simp only [Co, Jc]
    rw [Ou hi, F2, Ou (show i < a1.length by omega), wI (by omega)]
    simp only [cond_true, Int.toNat_natCast]
    have f1 : A4 B7 (List.getD (α := Opn) a0 i (false, 0, (ByteArray.mk #[]), ())) = true := hx _ (Ot (false, 0, (ByteArray.mk #[]), ()) hi)
    have f2 : A4 B7 (List.getD (α := Opn) a1 i (false, 0, (ByteArray.mk #[]), ())) = true := hy _ (Ot (false, 0, (ByteArray.mk #[]), ()) (by omega))
    have hE : Sd (List.getD (α := Opn) a0 i (false, 0, (ByteArray.mk #[]), ())) (List.getD (α := Opn) a1 i (false, 0, (ByteArray.mk #[]), ())) = some (Lv B7 (List.getD (α := Opn) a0 i (false, 0, (ByteArray.mk #[]), ())) (List.getD (α := Opn) a1 i (false, 0, (ByteArray.mk #[]), ()))) := by
     exact Ta (t := B7) (x := (List.getD (α := Opn) a0 i (false, 0, (ByteArray.mk #[]), ()))) (y := (List.getD (α := Opn) a1 i (false, 0, (ByteArray.mk #[]), ()))) f1 f2
    rw [hE]
    cases q : Lv B7 (List.getD (α := Opn) a0 i (false, 0, (ByteArray.mk #[]), ())) (List.getD (α := Opn) a1 i (false, 0, (ByteArray.mk #[]), ())) <;> simp only [Option.bind_some, q] <;> rfl) (fun m => by
    show Co (m + 1) a0 a1 a0.length = _
    simp only [Co, Jc]
    rw [I0]
    rfl) (F3 a0 a1 0) 0 (by omega) (by simp [F3])
   rw [c1]
   have hL' : Co (F3 a0 a1 0) a0 a1 0 = _ := hL
   show (Co (F3 a0 a1 0) a0 a1 0).bind _ = some ((eqL (α := Opn) (fun x y : Opn => Lv B7 x y) a0 a1, ()), ())
   rw [hL', List.drop_zero, List.drop_zero]
   cases eqL (α := Opn) (fun x y : Opn => Lv B7 x y) a0 a1 <;> rfl
  ·have c1 : (nI a0.length != nI a1.length) = true := by simp [nI]; omega
   rw [c1]
   show _ = some ((eqL (α := Opn) (fun x y : Opn => Lv B7 x y) a0 a1, ()), ())
   rw [Aaq (fun q => hl q.symm)]
   rfl
noncomputable def Wj {R : Type} (k : Kt R) := (Cs (Iz (pa_laws_eqOpS 5) (.exit 0) 2 k) (Iz (pa_laws_eqOpS 5) .ret 1 k))
noncomputable def Aa2 {R : Type} : Lt R pa_laws_eqOpS := (Ef (pat := pa_laws_eqOpS) 5 (fun d k => (Co (F3 d.1 d.2.1 d.2.2.1) d.1 d.2.1 d.2.2.1).bind (Wj k)) Fu)
theorem d9 : As Tryz.prog ta_laws_eqOpS := Au ⟨Ap8, trivial⟩
theorem Ag3 {R : Type} : Ay Tryz.prog R 27 0 pa_laws_eqOpS Aa2 co_laws_eqOpS_5 :=
 B6 (cfg := ⟨ta_laws_eqOpS, 0, 27, pa_laws_eqOpS⟩) 5 [] (fun NX X d => Jc  NX (fun e => X (.inl (e))) (fun e => X (.inr (e))) d.1 d.2.1 d.2.2.1) (fun m d => Co m d.1 d.2.1 d.2.2.1) (fun d => F3 d.1 d.2.1 d.2.2.1) Wj d9 trivial (fun f NX d => by unfold Jc; simp only [Am, Ap, Ah, Option.bind_assoc, Option.bind_none, Option.bind_some]) (fun _ _ _ => by kernel_rfl)
theorem Amo : Bo Tryz.prog 96 sd_laws_eqOpS :=
 At (pat := pa_laws_eqOpS) [co_laws_eqOpS_5] Aa2 d9 ⟨Ag3, trivial⟩ Tryz.func96 (de := fun x => Te x.1 x.2.1) (fun x r h => Az (Amn x.1 x.2.1) h) fun _ => by kernel_rfl
def Jm (a b : Don) : Option Bool := eqM Auy a b
def Akr : Sig := ⟨[.rd Auy, .rd Auy], [some 12, some 12], [.rd .bool], [none]⟩
noncomputable def sd_laws_eqDone : SD := ⟨Akr, fun x => (Jm x.1 x.2.1).bind fun r => some ((r, ()), (()))⟩
noncomputable def Qt (a0 : Don) (a1 : Don) : Option ((((Bool) × Unit) × (Unit))) :=
 bif a0.1 != a1.1 then some ((false, ()), ()) else ((Jy a0.2.1 a1.2.1).bind fun val => some ((val, ()), ())).bind fun val => bif !val.1.1 then some ((false, ()), ()) else ((P3 a0.2.2.1 a1.2.2.1).bind fun val => some ((val, ()), ())).bind fun val => bif !val.1.1 then some ((false, ()), ()) else some ((true, ()), ())
theorem Aks (a0 : Don) (a1 : Don) r (h : Jm a0 a1 = some r) : Qt a0 a1 = some ((r, ()), (())) := by
 obtain ⟨hc, hd, rfl⟩ := Jb (t := Auy) h
 obtain ⟨hc0, hc1, hc2, _⟩ : A4 tI a0.1 = true ∧ A4 m7 a0.2.1 = true ∧ A4 (.sl B7) a0.2.2.1 = true ∧ True := by
  have s := hc
  obtain ⟨h0, s⟩ := Aj s
  obtain ⟨h1, s⟩ := Aj s
  obtain ⟨h2, s⟩ := Aj s
  exact ⟨h0, h1, h2, trivial⟩
 obtain ⟨hd0, hd1, hd2, _⟩ : A4 tI a1.1 = true ∧ A4 m7 a1.2.1 = true ∧ A4 (.sl B7) a1.2.2.1 = true ∧ True := by
  have s := hd
  obtain ⟨h0, s⟩ := Aj s
  obtain ⟨h1, s⟩ := Aj s
  obtain ⟨h2, s⟩ := Aj s
  exact ⟨h0, h1, h2, trivial⟩
 unfold Qt
 have e0 : (a0.1 != a1.1) = !R6 a0.1 a1.1 := Aau _ _
 have e1 : Jy a0.2.1 a1.2.1 = some (Lv m7 a0.2.1 a1.2.1) := Ta (t := m7) hc1 hd1
 have e1 : Jy a0.2.1 a1.2.1 = some (Lv m7 a0.2.1 a1.2.1) := e1
 have e2 : P3 a0.2.2.1 a1.2.2.1 = some (Lv (.sl B7) a0.2.2.1 a1.2.2.1) := Ta (t := (.sl B7)) hc2 hd2
 simp only [e0, e1, e2, Option.bind_some]
 show _ = some (((R6 a0.1 a1.1 && (Lv m7 a0.2.1 a1.2.1 && (Lv (.sl B7) a0.2.2.1 a1.2.2.1 && true))), ()), ())
 generalize R6 a0.1 a1.1 = p0
 generalize Lv m7 a0.2.1 a1.2.1 = p1
 generalize Lv (.sl B7) a0.2.2.1 a1.2.2.1 = p2
 cases p0 <;> cases p1 <;> cases p2 <;> rfl
theorem Akt : Bo Tryz.prog 21 sd_laws_eqDone :=
 At (pat := Cr) [] Fu (Au (l := [(22, sd_laws_eqStore), (96, sd_laws_eqOpS)]) ⟨Ag2, Amo, trivial⟩) trivial Tryz.func21 (de := fun x => Qt x.1 x.2.1) (fun x r h => Az (Aks x.1 x.2.1) h) fun _ => by kernel_rfl
def A5 (k : Int) : Option ByteArray := if k ≤ 36028797018963968 then some (Kl k) else none
def Gq (v0 : Int) (v3 : ByteArray) : Nat := 21
def Adx : Sig := ⟨[.rd tI], [none], [.rd .str], [none]⟩
noncomputable def sd_laws_markText : SD := ⟨Adx, fun x => (A5 x.1).bind fun r => some ((r, ()), (()))⟩
noncomputable def ta_laws_markText : Tb := tb []
def pa_laws_markText : Nat → Pat × (Nat → Pat) := Fe [(5, ⟨[], [(0, .lf (.d tI)), (3, .lf (.d .str))], []⟩, [(2, ⟨[], [(3, .lf (.d .str))], []⟩)])]
noncomputable def co_laws_markText_5 : Code := (Ao (A8 Tryz.f99)).getD 0 .skip
noncomputable def Gr {R : Type}  (NX : ((Int) × (ByteArray) × Unit) → Option R) (X2 : ((ByteArray) × Unit) → Option R) (v0 : Int) (v3 : ByteArray) : Option R :=
 bif decide (v0 > 0) then bif decide ((strOfNums [IntKind.u8.wrap (IntKind.i64.wrap (48 + v0.tmod 10))]).size + v3.size ≤ 9223372036854775807) then NX (IntKind.i64.wrap (v0.tdiv 10), strOfNums [IntKind.u8.wrap (IntKind.i64.wrap (48 + v0.tmod 10))] ++ v3, ()) else none else X2 (v3, ())
noncomputable def Ck : Nat → (Int) → (ByteArray) →  Option ((ByteArray) × Unit)
 | 0, _, _ => none
 | m + 1, v0, v3 => Gr  (fun d => Ck m d.1 d.2.1) (fun d => some (d)) v0 v3
noncomputable def Nt (a0 : Int) : Option ((((ByteArray) × Unit) × (Unit))) :=
 bif decide (a0 ≤ 0) then some ((ByteArray.mk #[109, 48], ()), ()) else ((fun d => Ck (Gq d.1 d.2.1) d.1 d.2.1) (a0, ByteArray.mk #[], ())).bind fun val => bif decide ((ByteArray.mk #[109]).size + ByteArray.size val.1 ≤ 9223372036854775807) then some ((ByteArray.mk #[109] ++ val.1, ()), ()) else none
theorem Avc {k : Int} (h : 0 ≤ k) : IntKind.wrap .u8 (IntKind.wrap .i64 (48 + Int.tmod k 10)) = 48 + k % 10 := by
 rw [Int.tmod_eq_emod_of_nonneg h]
 have h1 : 0 ≤ k % 10 := Int.emod_nonneg _ (by omega)
 have h2 : k % 10 < 10 := Int.emod_lt_of_pos _ (by omega)
 have e1 : IntKind.wrap .i64 (48 + k % 10) = 48 + k % 10 := Ad (by omega) (by omega)
 rw [e1]
 simp [IntKind.wrap, IntKind.bits, IntKind.signed]
 omega
theorem Ua : ∀ (m : Nat) (k : Int) (out : ByteArray), 0 ≤ k → k ≤ 36028797018963968 → k < 10 ^ m → out.size + m ≤ 100 → Ck (m + 1) k out = some (Xv m k out, ())
 | 0, k, out, h0, hb, h1, _ => by
  simp only [Ck, Gr]
  have : ¬ k > 0 := by simp at h1; omega
  rw [decide_eq_false this]
  rfl
 | m + 1, k, out, h0, hb, h1, h2 => by
  rw [Ck]
  simp only [Gr, Xv]
  by_cases h : k > 0
  ·have e : IntKind.wrap .i64 (Int.tdiv k 10) = k / 10 := by
    rw [Int.tdiv_eq_ediv_of_nonneg h0]
    exact Ad (by omega) (by omega)
   have hs : ByteArray.size (strOfNums [48 + k % 10]) = 1 := strOfNums_size _
   have h3 : k / 10 < 10 ^ m := Int.ediv_lt_of_lt_mul (by omega) (by rw [Int.pow_succ] at h1; exact h1)
   have c : ByteArray.size (strOfNums [48 + k % 10]) + ByteArray.size out ≤ 9223372036854775807 := by rw [hs]; omega
   have ih := Ua m (k / 10) (strOfNums [48 + k % 10] ++ out) (by omega) (by omega) h3 (by rw [ByteArray.size_append, hs]; omega)
   rw [Avc h0, decide_eq_true h, if_pos h, e, decide_eq_true c]
   exact ih
  ·rw [decide_eq_false h, if_neg h]
   rfl
theorem Af7 : ∀ (m : Nat) (k : Int) (out : ByteArray), (Xv m k out).size ≤ out.size + m
 | 0, k, out => Nat.le_refl _
 | m + 1, k, out => by
  simp only [Xv]
  split
  ·have := Af7 m (k / 10) (strOfNums [48 + k % 10] ++ out)
   rw [ByteArray.size_append, strOfNums_size] at this
   simp at this
   omega
  ·omega
theorem Ady (a0 : Int) r (h : A5 a0 = some r) : Nt a0 = some ((r, ()), (())) := by
 unfold A5 at h
 split at h
 ·rename_i hc
  cases h
  unfold Nt Kl
  by_cases q : a0 ≤ 0
  ·rw [decide_eq_true q, if_pos q]; rfl
  ·rw [decide_eq_false q, if_neg q]
   have hL := Ua 20 a0 ⟨#[]⟩ (by omega) hc (by omega) (by decide)
   have hL' : Ck (Gq a0 ⟨#[]⟩) a0 ⟨#[]⟩ = _ := hL
   show (Ck (Gq a0 ⟨#[]⟩) a0 ⟨#[]⟩).bind _ = _
   rw [hL']
   have := Af7 20 a0 ⟨#[]⟩
   have h0 : ByteArray.size ⟨#[]⟩ = 0 := rfl
   have h1 : ByteArray.size ⟨#[109]⟩ = 1 := rfl
   have c : ByteArray.size ⟨#[109]⟩ + ByteArray.size (Xv 20 a0 ⟨#[]⟩) ≤ 9223372036854775807 := by omega
   show (bif decide (ByteArray.size ⟨#[109]⟩ + ByteArray.size (Xv 20 a0 ⟨#[]⟩) ≤ 9223372036854775807) then _ else _) = _
   rw [decide_eq_true c]
   rfl
 ·cases h
noncomputable def Qu {R : Type} (k : Kt R) := (Iz (pa_laws_markText 5) (.exit 0) 2 k)
noncomputable def Wk {R : Type} : Lt R pa_laws_markText := (Ef (pat := pa_laws_markText) 5 (fun d k => (Ck (Gq d.1 d.2.1) d.1 d.2.1).bind (Qu k)) Fu)
theorem Ub : As Tryz.prog ta_laws_markText := Au trivial
theorem n7 {R : Type} : Ay Tryz.prog R 20 0 pa_laws_markText Wk co_laws_markText_5 :=
 B6 (cfg := ⟨ta_laws_markText, 0, 20, pa_laws_markText⟩) 5 [] (fun NX X d => Gr  NX X d.1 d.2.1) (fun m d => Ck m d.1 d.2.1) (fun d => Gq d.1 d.2.1) Qu Ub trivial (fun f NX d => by unfold Gr; simp only [Am, Ap, Ah, Option.bind_assoc, Option.bind_none, Option.bind_some]) (fun _ _ _ => by kernel_rfl)
theorem Gi : Bo Tryz.prog 99 sd_laws_markText :=
 At (pat := pa_laws_markText) [co_laws_markText_5] Wk Ub ⟨n7, trivial⟩ Tryz.func99 (de := fun x => Nt x.1) (fun x r h => Az (Ady x.1) h) fun _ => by kernel_rfl
def Kd (a : List Pr2) (k : Int) : Option (Int × (List Pr2)) := If Aq a k
def Aa3 : Sig := ⟨[.mu 167 Aq, .rd tI], [none, none], [.rd tI], [none]⟩
noncomputable def sd_laws_markPairS : SD := ⟨Aa3, fun x => (Kd x.1 x.2.1).bind fun r => some ((r.1, ()), (r.2, ()))⟩
noncomputable def ta_laws_markPairS : Tb := tb [(99, sd_laws_markText)]
def pa_laws_markPairS : Nat → Pat × (Nat → Pat) := Fe [(3, ⟨[], [(0, .lf (.row 0)), (1, .lf (.d tI)), (5, .lf (.d tI))], [.row 167 Aq]⟩, [(2, ⟨[], [(1, .lf (.d tI))], [.row 167 Aq]⟩)])]
noncomputable def co_laws_markPairS_3 : Code := (Ao (A8 Tryz.f130)).getD 0 .skip
def Dg (v1 : Int) (v5 : Int) (r0 : List Pr2) : Nat := ((r0.length : Int) - v5).toNat + 1
noncomputable def F5 {R : Type}  (NX : ((Int) × (Int) × (List Pr2) × Unit) → Option R) (X2 : ((Int) × (List Pr2) × Unit) → Option R) (v1 : Int) (v5 : Int) (r0 : List Pr2) : Option R :=
 bif decide (v5 < nI r0.length) then ((A5 v1).bind fun val => some ((val, ()), ())).bind fun val => bif decide (0 ≤ v5) then bif decide (v5 < nI r0.length) then bif decide (v5.toNat < r0.length) then ((A5 (IntKind.i64.wrap (v1 + 1))).bind fun val => some ((val, ()), ())).bind fun val_1 => bif decide (0 ≤ v5) then bif decide (v5 < nI (r0.set v5.toNat (val.1.1, (r0.getD v5.toNat (ByteArray.mk #[], ByteArray.mk #[], ())).2)).length) then bif decide (v5.toNat < (r0.set v5.toNat (val.1.1, (r0.getD v5.toNat (ByteArray.mk #[], ByteArray.mk #[], ())).2)).length) then NX (IntKind.i64.wrap (IntKind.i64.wrap (v1 + 1) + 1), IntKind.i64.wrap (v5 + 1), (r0.set v5.toNat (val.1.1, (r0.getD v5.toNat (ByteArray.mk #[], ByteArray.mk #[], ())).2)).set v5.toNat (((r0.set v5.toNat (val.1.1, (r0.getD v5.toNat (ByteArray.mk #[], ByteArray.mk #[], ())).2)).getD v5.toNat (ByteArray.mk #[], ByteArray.mk #[], ())).1, val_1.1), ()) else none else none else none else none else none else none else X2 (v1, r0, ())
noncomputable def Bc : Nat → (Int) → (Int) → (List Pr2) →  Option ((Int) × (List Pr2) × Unit)
 | 0, _, _, _ => none
 | m + 1, v1, v5, r0 => F5  (fun d => Bc m d.1 d.2.1 d.2.2.1) (fun d => some (d)) v1 v5 r0
noncomputable def Mf (a0 : List Pr2) (a1 : Int) : Option ((((Int) × Unit) × Stt)) :=
 ((fun d => Bc (Dg d.1 d.2.1 d.2.2.1) d.1 d.2.1 d.2.2.1) (a1, 0, a0, ())).bind fun val => some ((val.1, ()), val.2)
theorem Aa4 (a0 : List Pr2) (a1 : Int) r (h : Kd a0 a1 = some r) : Mf a0 a1 = some ((r.1, ()), (r.2, ())) := by
 obtain ⟨g0, g1, hl0, rfl⟩ := Vy (t := Aq) h
 have hl : a0.length ≤ 1125899906842624 := hl0
 have hEE : (fun k : Int => (show Pr2 from (mkE Aq k).1)) = (fun k : Int => (Kl (k), Kl (k + 1), ())) := funext fun k => by
  show (Kl (k), Kl (k + 1), ()) = (Kl (k), Kl (k + 1), ())
  try simp only [Int.add_assoc, Int.add_zero]
  try rfl
 show _ = some ((a1 + (a0.length : Int) * 2, ()), (gL (fun k : Int => (show Pr2 from (mkE Aq k).1)) 2 a0.length a1, ()))
 rw [hEE]
 unfold Mf
 have hL := T3 (fun k : Int => (Kl (k), Kl (k + 1), ())) 2 (n := a0.length) (K := 36028797018963000) (g := fun m k i r => Bc m k i r) (ok := fun k r => (k, r, ())) (fun m i k r hi hr h1 hK => by
  show Bc (m + 1) k i r = _
  have hK1 : k + 2 ≤ 36028797018963000 := by
   have : (1 : Int) ≤ (a0.length - i : Nat) := by omega
   omega
  rw [show Bc (m + 1) k i r = Bc (m + 1) (k + 0) i r from by rw [Int.add_zero]]
  have k0 : k = k + 0 := (Int.add_zero k).symm
  have t0 : A5 (k + 0) = some (Kl (k + 0)) := if_pos (by omega)
  have t1 : A5 (k + 1) = some (Kl (k + 1)) := if_pos (by omega)
  have w0 : IntKind.i64.wrap (k + 0 + 1) = k + 1 := by rw [Ad (by omega) (by omega)]; omega
  have w1 : IntKind.i64.wrap (k + 1 + 1) = k + 2 := by rw [Ad (by omega) (by omega)]; omega
  have hir : i < r.length := by omega
  simp only [Bc, F5]
  simp only [t0, t1,  Option.bind_some, w0, w1,  List.length_set, List.set_set, Ou hir, F2, Axr hir, wI (show i < 4611686018427387904 by omega), cond_true, Int.toNat_natCast, Hm hir]
  first | rfl | (rw [Int.add_zero]; rfl) | (simp only [Int.add_zero]; rfl)) (fun m k r hr => by
  show Bc (m + 1) k a0.length r = _
  simp only [Bc, F5, hr]
  rw [I0]
  rfl) (Dg a1 0 a0) 0 a1 a0 (by omega) (by simp [Dg]) rfl g0 (by omega)
 have hL' : Bc (Dg a1 0 a0) a1 0 a0 = _ := hL
 show (Bc (Dg a1 0 a0) a1 0 a0).bind _ = _
 rw [hL']
 rfl
noncomputable def Pi {R : Type} (k : Kt R) := (Iz (pa_laws_markPairS 3) (.exit 0) 2 k)
noncomputable def Uc {R : Type} : Lt R pa_laws_markPairS := (Ef (pat := pa_laws_markPairS) 3 (fun d k => (Bc (Dg d.1 d.2.1 d.2.2.1) d.1 d.2.1 d.2.2.1).bind (Pi k)) Fu)
theorem Se : As Tryz.prog ta_laws_markPairS := Au ⟨Gi, trivial⟩
theorem Zq {R : Type} : Ay Tryz.prog R 29 1 pa_laws_markPairS Uc co_laws_markPairS_3 :=
 B6 (cfg := ⟨ta_laws_markPairS, 1, 29, pa_laws_markPairS⟩) 3 [] (fun NX X d => F5  NX X d.1 d.2.1 d.2.2.1) (fun m d => Bc m d.1 d.2.1 d.2.2.1) (fun d => Dg d.1 d.2.1 d.2.2.1) Pi Se trivial (fun f NX d => by unfold F5; simp only [Am, Ap, Ah, Option.bind_assoc, Option.bind_none, Option.bind_some]) (fun _ _ _ => by kernel_rfl)
theorem Aa5 : Bo Tryz.prog 130 sd_laws_markPairS :=
 At (pat := pa_laws_markPairS) [co_laws_markPairS_3] Uc Se ⟨Zq, trivial⟩ Tryz.func130 (de := fun x => Mf x.1 x.2.1) (fun x r h => Az (Aa4 x.1 x.2.1) h) fun _ => by kernel_rfl
def Gj (a : Stt) (k : Int) : Option (Int × (List Pr2)) := (If Aq a.1 k).bind fun r0 =>  some (r0.1, r0.2)
def Aa6 : Sig := ⟨[.mu 167 Aq, .rd tI], [some 1, none], [.rd tI], [none]⟩
noncomputable def sd_laws_markState : SD := ⟨Aa6, fun x => (Gj (x.1, ()) x.2.1).bind fun r => some ((r.1, ()), (r.2, ()))⟩
noncomputable def Mg (a0 : List Pr2) (a1 : Int) : Option ((((Int) × Unit) × Stt)) :=
 ((Kd a0 a1).bind fun val => some ((val.1, ()), val.2, ())).bind fun val => some val
theorem Aa7 (a0 : List Pr2) (a1 : Int) r (h : Gj (a0, ()) a1 = some r) : Mg a0 a1 = some ((r.1, ()), (r.2, ())) := by
 unfold Gj at h
 obtain ⟨⟨k0, x0⟩, e0, h⟩ := Option.bind_eq_some_iff.1 h
 have e0 : If Aq a0 a1 = some (k0, x0) := e0
 cases h
 unfold Mg
 have c0 : Kd a0 a1 = (some (k0, x0) : Option (Int × (List Pr2))) := e0
 rw [c0]
 simp only [Option.bind_some]
 try rfl
theorem Aa8 : Bo Tryz.prog 43 sd_laws_markState :=
 At (pat := Cr) [] Fu (Au (l := [(130, sd_laws_markPairS)]) ⟨Aa5, trivial⟩) trivial Tryz.func43 (de := fun x => Mg x.1 x.2.1) (fun x r h => Az (Aa7 x.1 x.2.1) h) fun _ => by kernel_rfl
def Gk (a : Sto) (k : Int) : Option (Int × (List Pr2)) := (If Aq a.2.2.2.2.2.2.1.1 k).bind fun r0 =>  some (r0.1, r0.2)
def Aa9 : Sig := ⟨[.rd tI, .rd tI, .rd tI, .rd tI, .rd tI, .rd tI, .rd tI, .rd tI, .rd tI, .mu 167 Aq, .rd tI], [some 10, none], [.rd tI], [none]⟩
noncomputable def sd_laws_markStore : SD := ⟨Aa9, fun x => (Gk (x.1, x.2.1, x.2.2.1, (x.2.2.2.1, x.2.2.2.2.1, x.2.2.2.2.2.1, x.2.2.2.2.2.2.1, ()), x.2.2.2.2.2.2.2.1, x.2.2.2.2.2.2.2.2.1, (x.2.2.2.2.2.2.2.2.2.1, ()), ()) x.2.2.2.2.2.2.2.2.2.2.1).bind fun r => some ((r.1, ()), (r.2, ()))⟩
noncomputable def Mh (a0 : Int) (a1 : Int) (a2 : Int) (a3 : Int) (a4 : Int) (a5 : Int) (a6 : Int) (a7 : Int) (a8 : Int) (a9 : List Pr2) (a10 : Int) : Option ((((Int) × Unit) × Stt)) :=
 ((Gj (a9, ()) a10).bind fun val => some ((val.1, ()), val.2, ())).bind fun val => some val
theorem Aba (a0 : Int) (a1 : Int) (a2 : Int) (a3 : Int) (a4 : Int) (a5 : Int) (a6 : Int) (a7 : Int) (a8 : Int) (a9 : List Pr2) (a10 : Int) r (h : Gk (a0, a1, a2, (a3, a4, a5, a6, ()), a7, a8, (a9, ()), ()) a10 = some r) : Mh a0 a1 a2 a3 a4 a5 a6 a7 a8 a9 a10 = some ((r.1, ()), (r.2, ())) := by
 unfold Gk at h
 obtain ⟨⟨k0, x0⟩, e0, h⟩ := Option.bind_eq_some_iff.1 h
 have e0 : If Aq a9 a10 = some (k0, x0) := e0
 cases h
 unfold Mh
 have c0 : Gj (a9, ()) a10 = (some (k0, x0) : Option (Int × (List Pr2))) := by
  unfold Gj
  show (If Aq a9 a10).bind _ = _
  rw [e0]
  rfl
 rw [c0]
 simp only [Option.bind_some]
 try rfl
theorem Abb : Bo Tryz.prog 24 sd_laws_markStore :=
 At (pat := Cr) [] Fu (Au (l := [(43, sd_laws_markState)]) ⟨Aa8, trivial⟩) trivial Tryz.func24 (de := fun x => Mh x.1 x.2.1 x.2.2.1 x.2.2.2.1 x.2.2.2.2.1 x.2.2.2.2.2.1 x.2.2.2.2.2.2.1 x.2.2.2.2.2.2.2.1 x.2.2.2.2.2.2.2.2.1 x.2.2.2.2.2.2.2.2.2.1 x.2.2.2.2.2.2.2.2.2.2.1) (fun x r h => Az (Aba x.1 x.2.1 x.2.2.1 x.2.2.2.1 x.2.2.2.2.1 x.2.2.2.2.2.1 x.2.2.2.2.2.2.1 x.2.2.2.2.2.2.2.1 x.2.2.2.2.2.2.2.2.1 x.2.2.2.2.2.2.2.2.2.1 x.2.2.2.2.2.2.2.2.2.2.1) h) fun _ => by kernel_rfl
def Mi (a : List Opn) (k : Int) : Option (Int × (List Opn)) := If B7 a k
def Ag4 : Sig := ⟨[.mu 126 B7, .rd tI], [none, none], [.rd tI], [none]⟩
noncomputable def sd_laws_markOpS : SD := ⟨Ag4, fun x => (Mi x.1 x.2.1).bind fun r => some ((r.1, ()), (r.2, ()))⟩
noncomputable def ta_laws_markOpS : Tb := tb [(99, sd_laws_markText)]
def pa_laws_markOpS : Nat → Pat × (Nat → Pat) := Fe [(3, ⟨[], [(0, .lf (.row 0)), (1, .lf (.d tI)), (5, .lf (.d tI))], [.row 126 B7]⟩, [(2, ⟨[], [(1, .lf (.d tI))], [.row 126 B7]⟩)])]
noncomputable def co_laws_markOpS_3 : Code := (Ao (A8 Tryz.f100)).getD 0 .skip
def Ej (v1 : Int) (v5 : Int) (r0 : List Opn) : Nat := ((r0.length : Int) - v5).toNat + 1
noncomputable def Hq {R : Type}  (NX : ((Int) × (Int) × (List Opn) × Unit) → Option R) (X2 : ((Int) × (List Opn) × Unit) → Option R) (v1 : Int) (v5 : Int) (r0 : List Opn) : Option R :=
 bif decide (v5 < nI r0.length) then bif decide (0 ≤ v5) then bif decide (v5 < nI r0.length) then bif decide (v5.toNat < r0.length) then bif decide (0 ≤ v5) then bif decide (v5 < nI (r0.set v5.toNat (v1.tmod 3 == 0, (r0.getD v5.toNat (false, 0, ByteArray.mk #[], ())).2)).length) then bif decide (v5.toNat < (r0.set v5.toNat (v1.tmod 3 == 0, (r0.getD v5.toNat (false, 0, ByteArray.mk #[], ())).2)).length) then ((A5 (IntKind.i64.wrap (IntKind.i64.wrap (v1 + 1) + 1))).bind fun val => some ((val, ()), ())).bind fun val => bif decide (0 ≤ v5) then bif decide (v5 < nI ((r0.set v5.toNat (v1.tmod 3 == 0, (r0.getD v5.toNat (false, 0, ByteArray.mk #[], ())).2)).set v5.toNat (((r0.set v5.toNat (v1.tmod 3 == 0, (r0.getD v5.toNat (false, 0, ByteArray.mk #[], ())).2)).getD v5.toNat (false, 0, ByteArray.mk #[], ())).1, IntKind.i64.wrap (v1 + 1), ((r0.set v5.toNat (v1.tmod 3 == 0, (r0.getD v5.toNat (false, 0, ByteArray.mk #[], ())).2)).getD v5.toNat (false, 0, ByteArray.mk #[], ())).2.2)).length) then bif decide (v5.toNat < ((r0.set v5.toNat (v1.tmod 3 == 0, (r0.getD v5.toNat (false, 0, ByteArray.mk #[], ())).2)).set v5.toNat (((r0.set v5.toNat (v1.tmod 3 == 0, (r0.getD v5.toNat (false, 0, ByteArray.mk #[], ())).2)).getD v5.toNat (false, 0, ByteArray.mk #[], ())).1, IntKind.i64.wrap (v1 + 1), ((r0.set v5.toNat (v1.tmod 3 == 0, (r0.getD v5.toNat (false, 0, ByteArray.mk #[], ())).2)).getD v5.toNat (false, 0, ByteArray.mk #[], ())).2.2)).length) then NX (IntKind.i64.wrap (IntKind.i64.wrap (IntKind.i64.wrap (v1 + 1) + 1) + 1), IntKind.i64.wrap (v5 + 1), ((r0.set v5.toNat (v1.tmod 3 == 0, (r0.getD v5.toNat (false, 0, ByteArray.mk #[], ())).2)).set v5.toNat (((r0.set v5.toNat (v1.tmod 3 == 0, (r0.getD v5.toNat (false, 0, ByteArray.mk #[], ())).2)).getD v5.toNat (false, 0, ByteArray.mk #[], ())).1, IntKind.i64.wrap (v1 + 1), ((r0.set v5.toNat (v1.tmod 3 == 0, (r0.getD v5.toNat (false, 0, ByteArray.mk #[], ())).2)).getD v5.toNat (false, 0, ByteArray.mk #[], ())).2.2)).set v5.toNat ((((r0.set v5.toNat (v1.tmod 3 == 0, (r0.getD v5.toNat (false, 0, ByteArray.mk #[], ())).2)).set v5.toNat (((r0.set v5.toNat (v1.tmod 3 == 0, (r0.getD v5.toNat (false, 0, ByteArray.mk #[], ())).2)).getD v5.toNat (false, 0, ByteArray.mk #[], ())).1, IntKind.i64.wrap (v1 + 1), ((r0.set v5.toNat (v1.tmod 3 == 0, (r0.getD v5.toNat (false, 0, ByteArray.mk #[], ())).2)).getD v5.toNat (false, 0, ByteArray.mk #[], ())).2.2)).getD v5.toNat (false, 0, ByteArray.mk #[], ())).1, (((r0.set v5.toNat (v1.tmod 3 == 0, (r0.getD v5.toNat (false, 0, ByteArray.mk #[], ())).2)).set v5.toNat (((r0.set v5.toNat (v1.tmod 3 == 0, (r0.getD v5.toNat (false, 0, ByteArray.mk #[], ())).2)).getD v5.toNat (false, 0, ByteArray.mk #[], ())).1, IntKind.i64.wrap (v1 + 1), ((r0.set v5.toNat (v1.tmod 3 == 0, (r0.getD v5.toNat (false, 0, ByteArray.mk #[], ())).2)).getD v5.toNat (false, 0, ByteArray.mk #[], ())).2.2)).getD v5.toNat (false, 0, ByteArray.mk #[], ())).2.1, val.1), ()) else none else none else none else none else none else none else none else none else none else X2 (v1, r0, ())
noncomputable def Bp : Nat → (Int) → (Int) → (List Opn) →  Option ((Int) × (List Opn) × Unit)
 | 0, _, _, _ => none
 | m + 1, v1, v5, r0 => Hq  (fun d => Bp m d.1 d.2.1 d.2.2.1) (fun d => some (d)) v1 v5 r0
noncomputable def O9 (a0 : List Opn) (a1 : Int) : Option ((((Int) × Unit) × ((List Opn) × Unit))) :=
 ((fun d => Bp (Ej d.1 d.2.1 d.2.2.1) d.1 d.2.1 d.2.2.1) (a1, 0, a0, ())).bind fun val => some ((val.1, ()), val.2)
theorem Ag5 (a0 : List Opn) (a1 : Int) r (h : Mi a0 a1 = some r) : O9 a0 a1 = some ((r.1, ()), (r.2, ())) := by
 obtain ⟨g0, g1, hl0, rfl⟩ := Vy (t := B7) h
 have hl : a0.length ≤ 1125899906842624 := hl0
 have hEE : (fun k : Int => (show Opn from (mkE B7 k).1)) = (fun k : Int => (decide ((k) % 3 = 0), k + 1, Kl (k + 2), ())) := funext fun k => by
  show (decide ((k) % 3 = 0), k + 1, Kl (k + 1 + 1), ()) = (decide ((k) % 3 = 0), k + 1, Kl (k + 2), ())
  try simp only [Int.add_assoc, Int.add_zero]
  try rfl
 show _ = some ((a1 + (a0.length : Int) * 3, ()), (gL (fun k : Int => (show Opn from (mkE B7 k).1)) 3 a0.length a1, ()))
 rw [hEE]
 unfold O9
 have hL := T3 (fun k : Int => (decide ((k) % 3 = 0), k + 1, Kl (k + 2), ())) 3 (n := a0.length) (K := 36028797018963000) (g := fun m k i r => Bp m k i r) (ok := fun k r => (k, r, ())) (fun m i k r hi hr h1 hK => by
  show Bp (m + 1) k i r = _
  have hK1 : k + 3 ≤ 36028797018963000 := by
   have : (1 : Int) ≤ (a0.length - i : Nat) := by omega
   omega
  rw [show Bp (m + 1) k i r = Bp (m + 1) (k + 0) i r from by rw [Int.add_zero]]
  have k0 : k = k + 0 := (Int.add_zero k).symm
  have t2 : A5 (k + 2) = some (Kl (k + 2)) := if_pos (by omega)
  have w0 : IntKind.i64.wrap (k + 0 + 1) = k + 1 := by rw [Ad (by omega) (by omega)]; omega
  have w1 : IntKind.i64.wrap (k + 1 + 1) = k + 2 := by rw [Ad (by omega) (by omega)]; omega
  have w2 : IntKind.i64.wrap (k + 2 + 1) = k + 3 := by rw [Ad (by omega) (by omega)]; omega
  have u0 : (Int.tmod (k + 0) 3 == 0) = decide ((k + 0) % 3 = 0) := A1u (by omega)
  have hir : i < r.length := by omega
  simp only [Bp, Hq]
  simp only [t2,  Option.bind_some, w0, w1, w2, u0,  List.length_set, List.set_set, Ou hir, F2, Axr hir, wI (show i < 4611686018427387904 by omega), cond_true, Int.toNat_natCast, Hm hir]
  first | rfl | (rw [Int.add_zero]; rfl) | (simp only [Int.add_zero]; rfl)) (fun m k r hr => by
  show Bp (m + 1) k a0.length r = _
  simp only [Bp, Hq, hr]
  rw [I0]
  rfl) (Ej a1 0 a0) 0 a1 a0 (by omega) (by simp [Ej]) rfl g0 (by omega)
 have hL' : Bp (Ej a1 0 a0) a1 0 a0 = _ := hL
 show (Bp (Ej a1 0 a0) a1 0 a0).bind _ = _
 rw [hL']
 rfl
noncomputable def Sf {R : Type} (k : Kt R) := (Iz (pa_laws_markOpS 3) (.exit 0) 2 k)
noncomputable def Ya {R : Type} : Lt R pa_laws_markOpS := (Ef (pat := pa_laws_markOpS) 3 (fun d k => (Bp (Ej d.1 d.2.1 d.2.2.1) d.1 d.2.1 d.2.2.1).bind (Sf k)) Fu)
theorem Wl : As Tryz.prog ta_laws_markOpS := Au ⟨Gi, trivial⟩
theorem Abc {R : Type} : Ay Tryz.prog R 37 1 pa_laws_markOpS Ya co_laws_markOpS_3 :=
 B6 (cfg := ⟨ta_laws_markOpS, 1, 37, pa_laws_markOpS⟩) 3 [] (fun NX X d => Hq  NX X d.1 d.2.1 d.2.2.1) (fun m d => Bp m d.1 d.2.1 d.2.2.1) (fun d => Ej d.1 d.2.1 d.2.2.1) Sf Wl trivial (fun f NX d => by unfold Hq; simp only [Am, Ap, Ah, Option.bind_assoc, Option.bind_none, Option.bind_some]) (fun _ _ _ => by kernel_rfl)
theorem Ag6 : Bo Tryz.prog 100 sd_laws_markOpS :=
 At (pat := pa_laws_markOpS) [co_laws_markOpS_3] Ya Wl ⟨Abc, trivial⟩ Tryz.func100 (de := fun x => O9 x.1 x.2.1) (fun x r h => Az (Ag5 x.1 x.2.1) h) fun _ => by kernel_rfl
def Jd (a : Don) (k : Int) : Option (Int × (List Pr2) × (List Opn)) := (If Aq a.2.1.2.2.2.2.2.2.1.1 k).bind fun r0 => (If B7 a.2.2.1 r0.1).bind fun r1 =>  some (r1.1, r0.2, r1.2)
def Adz : Sig := ⟨[.rd tI, .rd tI, .rd tI, .rd tI, .rd tI, .rd tI, .rd tI, .rd tI, .rd tI, .rd tI, .mu 167 Aq, .mu 126 B7, .rd tI], [some 12, none], [.rd tI], [none]⟩
noncomputable def sd_laws_markDone : SD := ⟨Adz, fun x => (Jd (x.1, (x.2.1, x.2.2.1, x.2.2.2.1, (x.2.2.2.2.1, x.2.2.2.2.2.1, x.2.2.2.2.2.2.1, x.2.2.2.2.2.2.2.1, ()), x.2.2.2.2.2.2.2.2.1, x.2.2.2.2.2.2.2.2.2.1, (x.2.2.2.2.2.2.2.2.2.2.1, ()), ()), x.2.2.2.2.2.2.2.2.2.2.2.1, ()) x.2.2.2.2.2.2.2.2.2.2.2.2.1).bind fun r => some ((r.1, ()), (r.2.1, r.2.2, ()))⟩
noncomputable def Nu (a0 : Int) (a1 : Int) (a2 : Int) (a3 : Int) (a4 : Int) (a5 : Int) (a6 : Int) (a7 : Int) (a8 : Int) (a9 : Int) (a10 : List Pr2) (a11 : List Opn) (a12 : Int) : Option ((((Int) × Unit) × ((List Pr2) × (List Opn) × Unit))) :=
 ((Gk (a1, a2, a3, (a4, a5, a6, a7, ()), a8, a9, (a10, ()), ()) a12).bind fun val => some ((val.1, ()), val.2, ())).bind fun val => ((Mi a11 val.1.1).bind fun val => some ((val.1, ()), val.2, ())).bind fun val_1 => some (val_1.1, val.2.1, val_1.2)
theorem Ad0 (a0 : Int) (a1 : Int) (a2 : Int) (a3 : Int) (a4 : Int) (a5 : Int) (a6 : Int) (a7 : Int) (a8 : Int) (a9 : Int) (a10 : List Pr2) (a11 : List Opn) (a12 : Int) r (h : Jd (a0, (a1, a2, a3, (a4, a5, a6, a7, ()), a8, a9, (a10, ()), ()), a11, ()) a12 = some r) : Nu a0 a1 a2 a3 a4 a5 a6 a7 a8 a9 a10 a11 a12 = some ((r.1, ()), (r.2.1, r.2.2, ())) := by
 unfold Jd at h
 obtain ⟨⟨k0, x0⟩, e0, h⟩ := Option.bind_eq_some_iff.1 h
 have e0 : If Aq a10 a12 = some (k0, x0) := e0
 obtain ⟨⟨k1, x1⟩, e1, h⟩ := Option.bind_eq_some_iff.1 h
 have e1 : If B7 a11 k0 = some (k1, x1) := e1
 cases h
 unfold Nu
 have c0 : Gk (a1, a2, a3, (a4, a5, a6, a7, ()), a8, a9, (a10, ()), ()) a12 = (some (k0, x0) : Option (Int × (List Pr2))) := by
  unfold Gk
  show (If Aq a10 a12).bind _ = _
  rw [e0]
  rfl
 rw [c0]
 simp only [Option.bind_some]
 have c1 : Mi a11 k0 = (some (k1, x1) : Option (Int × (List Opn))) := e1
 rw [c1]
 simp only [Option.bind_some]
 try rfl
theorem Ad1 : Bo Tryz.prog 26 sd_laws_markDone :=
 At (pat := Cr) [] Fu (Au (l := [(24, sd_laws_markStore), (100, sd_laws_markOpS)]) ⟨Abb, Ag6, trivial⟩) trivial Tryz.func26 (de := fun x => Nu x.1 x.2.1 x.2.2.1 x.2.2.2.1 x.2.2.2.2.1 x.2.2.2.2.2.1 x.2.2.2.2.2.2.1 x.2.2.2.2.2.2.2.1 x.2.2.2.2.2.2.2.2.1 x.2.2.2.2.2.2.2.2.2.1 x.2.2.2.2.2.2.2.2.2.2.1 x.2.2.2.2.2.2.2.2.2.2.2.1 x.2.2.2.2.2.2.2.2.2.2.2.2.1) (fun x r h => Az (Ad0 x.1 x.2.1 x.2.2.1 x.2.2.2.1 x.2.2.2.2.1 x.2.2.2.2.2.1 x.2.2.2.2.2.2.1 x.2.2.2.2.2.2.2.1 x.2.2.2.2.2.2.2.2.1 x.2.2.2.2.2.2.2.2.2.1 x.2.2.2.2.2.2.2.2.2.2.1 x.2.2.2.2.2.2.2.2.2.2.2.1 x.2.2.2.2.2.2.2.2.2.2.2.2.1) h) fun _ => by kernel_rfl
def Ke (a : List Pr2) (k : Int) : Option Int := L7 Aq a k
def Abd : Sig := ⟨[.rd (.sl Aq), .rd tI], [none, none], [.rd tI], [none]⟩
noncomputable def sd_laws_heldPairS : SD := ⟨Abd, fun x => (Ke x.1 x.2.1).bind fun r => some ((r, ()), (()))⟩
noncomputable def ta_laws_heldPairS : Tb := tb [(99, sd_laws_markText)]
def pa_laws_heldPairS : Nat → Pat × (Nat → Pat) := Fe [(3, ⟨[.sl 0 0 Aq], [(0, .lf (.d (.sl Aq))), (1, .lf (.d tI)), (5, .lf (.d tI))], []⟩, [(2, ⟨[], [(1, .lf (.d tI))], []⟩), (1, ⟨[], [(4, .lf (.d tI))], []⟩)])]
noncomputable def co_laws_heldPairS_3 : Code := (Ao (A8 Tryz.f131)).getD 0 .skip
def Dh (v0 : List Pr2) (v1 : Int) (v5 : Int) : Nat := ((v0.length : Int) - v5).toNat + 1
noncomputable def F6 {R : Type}  (NX : ((List Pr2) × (Int) × (Int) × Unit) → Option R) (X2 : ((Int) × Unit) → Option R) (X1 : ((Int) × Unit) → Option R) (v0 : List Pr2) (v1 : Int) (v5 : Int) : Option R :=
 bif decide (v5 < nI v0.length) then bif decide (0 ≤ v5) then bif decide (v5 < nI v0.length) then ((A5 v1).bind fun val => some ((val, ()), ())).bind fun val => bif !ByteArray.toList (v0.getD v5.toNat (ByteArray.mk #[], ByteArray.mk #[], ())).1 == ByteArray.toList val.1.1 then X1 (-1, ()) else bif decide (0 ≤ v5) then bif decide (v5 < nI v0.length) then ((A5 (IntKind.i64.wrap (v1 + 1))).bind fun val => some ((val, ()), ())).bind fun val => bif !ByteArray.toList (v0.getD v5.toNat (ByteArray.mk #[], ByteArray.mk #[], ())).2.1 == ByteArray.toList val.1.1 then X1 (-1, ()) else NX (v0, IntKind.i64.wrap (IntKind.i64.wrap (v1 + 1) + 1), IntKind.i64.wrap (v5 + 1), ()) else none else none else none else none else X2 (v1, ())
noncomputable def A7 : Nat → (List Pr2) → (Int) → (Int) →  Option (((Int) × Unit) ⊕ ((Int) × Unit))
 | 0, _, _, _ => none
 | m + 1, v0, v1, v5 => F6  (fun d => A7 m d.1 d.2.1 d.2.2.1) (fun d => some (.inl (d))) (fun d => some (.inr (d))) v0 v1 v5
noncomputable def Mj (a0 : List Pr2) (a1 : Int) : Option ((((Int) × Unit) × (Unit))) :=
 ((fun d => A7 (Dh d.1 d.2.1 d.2.2.1) d.1 d.2.1 d.2.2.1) (a0, a1, 0, ())).bind fun val => Cs (fun val => some (val, ())) (fun val => some (val, ())) val
theorem Abe (a0 : List Pr2) (a1 : Int) r (h : Ke a0 a1 = some r) : Mj a0 a1 = some ((r, ()), (())) := by
 obtain ⟨g0, g1, hl0, rfl⟩ := Ajz (t := Aq) h
 have hl : a0.length ≤ 1125899906842624 := hl0
 have hEE : (fun k : Int => (show Pr2 from (mkE Aq k).1)) = (fun k : Int => (Kl (k), Kl (k + 1), ())) := funext fun k => by
  show (Kl (k), Kl (k + 1), ()) = (Kl (k), Kl (k + 1), ())
  try simp only [Int.add_assoc, Int.add_zero]
  try rfl
 show _ = some ((if eqL (α := Pr2) (fun x y : Pr2 => Lv Aq x y) a0 (gL (fun k : Int => (show Pr2 from (mkE Aq k).1)) 2 a0.length a1) = true then a1 + (a0.length : Int) * 2 else -1, ()), ())
 rw [hEE]
 unfold Mj
 have hL := Ado (xs := a0) ((ByteArray.mk #[]), (ByteArray.mk #[]), ()) (fun x y : Pr2 => Lv Aq x y) (fun k : Int => (Kl (k), Kl (k + 1), ())) 2 (K := 36028797018963000) (g := fun m k i => A7 m a0 k i) (ok := fun k => .inl (k, ())) (bad := .inr (-1, ())) (fun m i k hi h1 hK => by
  show A7 (m + 1) a0 k i = bif (fun x y : Pr2 => Lv Aq x y) (List.getD (α := Pr2) a0 i ((ByteArray.mk #[]), (ByteArray.mk #[]), ())) ((fun k : Int => (Kl (k), Kl (k + 1), ())) k) then A7 m a0 (k + 2) ((i + 1 : Nat) : Int) else _
  have hK1 : k + 2 ≤ 36028797018963000 := by
   have : (1 : Int) ≤ (a0.length - i : Nat) := by omega
   omega
  have hE : (fun x y : Pr2 => Lv Aq x y) (List.getD (α := Pr2) a0 i ((ByteArray.mk #[]), (ByteArray.mk #[]), ())) ((fun k : Int => (Kl (k), Kl (k + 1), ())) k) = (eqS (List.getD (α := Pr2) a0 i ((ByteArray.mk #[]), (ByteArray.mk #[]), ())).1 (Kl (k + 0)) && (eqS (List.getD (α := Pr2) a0 i ((ByteArray.mk #[]), (ByteArray.mk #[]), ())).2.1 (Kl (k + 1)) && true)) := by
   try simp only [Int.add_zero]
   try rfl
  rw [hE, show A7 (m + 1) a0 k i = A7 (m + 1) a0 (k + 0) i from by rw [Int.add_zero]]
  have k0 : k = k + 0 := (Int.add_zero k).symm
  have t0 : A5 (k + 0) = some (Kl (k + 0)) := if_pos (by omega)
  have t1 : A5 (k + 1) = some (Kl (k + 1)) := if_pos (by omega)
  have w0 : IntKind.i64.wrap (k + 0 + 1) = k + 1 := by rw [Ad (by omega) (by omega)]; omega
  have w1 : IntKind.i64.wrap (k + 1 + 1) = k + 2 := by rw [Ad (by omega) (by omega)]; omega
  have v0 : (!(ByteArray.toList (List.getD (α := Pr2) a0 i ((ByteArray.mk #[]), (ByteArray.mk #[]), ())).1 == ByteArray.toList (Kl (k + 0)))) = !eqS (List.getD (α := Pr2) a0 i ((ByteArray.mk #[]), (ByteArray.mk #[]), ())).1 (Kl (k + 0)) := rfl
  have v1 : (!(ByteArray.toList (List.getD (α := Pr2) a0 i ((ByteArray.mk #[]), (ByteArray.mk #[]), ())).2.1 == ByteArray.toList (Kl (k + 1)))) = !eqS (List.getD (α := Pr2) a0 i ((ByteArray.mk #[]), (ByteArray.mk #[]), ())).2.1 (Kl (k + 1)) := rfl
  simp only [A7, F6]
  simp only [t0, t1,  Option.bind_some, w0, w1,  Ou hi, F2, wI (show i < 4611686018427387904 by omega), cond_true, Int.toNat_natCast, v0, v1]
  generalize eqS (List.getD (α := Pr2) a0 i ((ByteArray.mk #[]), (ByteArray.mk #[]), ())).1 (Kl (k + 0)) = p0
  generalize eqS (List.getD (α := Pr2) a0 i ((ByteArray.mk #[]), (ByteArray.mk #[]), ())).2.1 (Kl (k + 1)) = p1
  cases p0 <;> cases p1 <;> rfl) (fun m k => by
  show A7 (m + 1) a0 k a0.length = _
  simp only [A7, F6]
  rw [I0]
  rfl) (Dh a0 a1 0) 0 a1 (by omega) (by simp [Dh]) g0 (by omega)
 have hL' : A7 (Dh a0 a1 0) a0 a1 0 = _ := hL
 show (A7 (Dh a0 a1 0) a0 a1 0).bind _ = some ((if eqL (α := Pr2) (fun x y : Pr2 => Lv Aq x y) a0 (gL (fun k : Int => (Kl (k), Kl (k + 1), ())) 2 a0.length a1) = true then a1 + (a0.length : Int) * 2 else -1, ()), ())
 rw [hL', List.drop_zero]
 cases eqL (α := Pr2) (fun x y : Pr2 => Lv Aq x y) a0 (gL (fun k : Int => (Kl (k), Kl (k + 1), ())) 2 a0.length a1) <;> rfl
noncomputable def Pj {R : Type} (k : Kt R) := (Cs (Iz (pa_laws_heldPairS 3) (.exit 0) 2 k) (Iz (pa_laws_heldPairS 3) .ret 1 k))
noncomputable def Ud {R : Type} : Lt R pa_laws_heldPairS := (Ef (pat := pa_laws_heldPairS) 3 (fun d k => (A7 (Dh d.1 d.2.1 d.2.2.1) d.1 d.2.1 d.2.2.1).bind (Pj k)) Fu)
theorem Sg : As Tryz.prog ta_laws_heldPairS := Au ⟨Gi, trivial⟩
theorem Zr {R : Type} : Ay Tryz.prog R 33 0 pa_laws_heldPairS Ud co_laws_heldPairS_3 :=
 B6 (cfg := ⟨ta_laws_heldPairS, 0, 33, pa_laws_heldPairS⟩) 3 [] (fun NX X d => F6  NX (fun e => X (.inl (e))) (fun e => X (.inr (e))) d.1 d.2.1 d.2.2.1) (fun m d => A7 m d.1 d.2.1 d.2.2.1) (fun d => Dh d.1 d.2.1 d.2.2.1) Pj Sg trivial (fun f NX d => by unfold F6; simp only [Am, Ap, Ah, Option.bind_assoc, Option.bind_none, Option.bind_some]) (fun _ _ _ => by kernel_rfl)
theorem Abf : Bo Tryz.prog 131 sd_laws_heldPairS :=
 At (pat := pa_laws_heldPairS) [co_laws_heldPairS_3] Ud Sg ⟨Zr, trivial⟩ Tryz.func131 (de := fun x => Mj x.1 x.2.1) (fun x r h => Az (Abe x.1 x.2.1) h) fun _ => by kernel_rfl
def Ij (a : Stt) (k : Int) : Option Int := (L7 Aq a.1 k).bind fun r0 =>  some (if r0 < 0 then -1 else r0)
def Abg : Sig := ⟨[.rd Py, .rd tI], [some 1, none], [.rd tI], [none]⟩
noncomputable def sd_laws_heldState : SD := ⟨Abg, fun x => (Ij x.1 x.2.1).bind fun r => some ((r, ()), (()))⟩
noncomputable def Mk (a0 : Stt) (a1 : Int) : Option ((((Int) × Unit) × (Unit))) :=
 ((Ke a0.1 a1).bind fun val => some ((val, ()), ())).bind fun val => bif decide (val.1.1 < 0) then some ((-1, ()), ()) else some val
theorem Abh (a0 : Stt) (a1 : Int) r (h : Ij a0 a1 = some r) : Mk a0 a1 = some ((r, ()), (())) := by
 unfold Ij at h
 unfold Mk
 obtain ⟨r0, e0, h⟩ := Option.bind_eq_some_iff.1 h
 have e0 : L7 Aq a0.1 a1 = some r0 := e0
 simp only [Ke]
 simp only [e0, Option.bind_some]
 by_cases q0 : r0 < 0
 ·simp only [if_pos q0] at h; cases h; simp only [if_pos q0, decide_eq_true q0, cond_true, show decide ((-1 : Int) < 0) = true from rfl]
 ·simp only [if_neg q0] at h; cases h; simp only [if_neg q0, decide_eq_false q0, cond_false]
theorem Abi : Bo Tryz.prog 44 sd_laws_heldState :=
 At (pat := Cr) [] Fu (Au (l := [(131, sd_laws_heldPairS)]) ⟨Abf, trivial⟩) trivial Tryz.func44 (de := fun x => Mk x.1 x.2.1) (fun x r h => Az (Abh x.1 x.2.1) h) fun _ => by kernel_rfl
def Ik (a : Sto) (k : Int) : Option Int := (L7 Aq a.2.2.2.2.2.2.1.1 k).bind fun r0 =>  some (if r0 < 0 then -1 else r0)
def Abj : Sig := ⟨[.rd m7, .rd tI], [some 10, none], [.rd tI], [none]⟩
noncomputable def sd_laws_heldStore : SD := ⟨Abj, fun x => (Ik x.1 x.2.1).bind fun r => some ((r, ()), (()))⟩
noncomputable def Ml (a0 : Sto) (a1 : Int) : Option ((((Int) × Unit) × (Unit))) :=
 ((Ij a0.2.2.2.2.2.2.1 a1).bind fun val => some ((val, ()), ())).bind fun val => bif decide (val.1.1 < 0) then some ((-1, ()), ()) else some val
theorem Abk (a0 : Sto) (a1 : Int) r (h : Ik a0 a1 = some r) : Ml a0 a1 = some ((r, ()), (())) := by
 unfold Ik at h
 unfold Ml
 obtain ⟨r0, e0, h⟩ := Option.bind_eq_some_iff.1 h
 have e0 : L7 Aq a0.2.2.2.2.2.2.1.1 a1 = some r0 := e0
 simp only [Ij]
 simp only [e0, Option.bind_some]
 by_cases q0 : r0 < 0
 ·simp only [if_pos q0] at h; cases h; simp only [if_pos q0, decide_eq_true q0, cond_true, show decide ((-1 : Int) < 0) = true from rfl]
 ·simp only [if_neg q0] at h; cases h; simp only [if_neg q0, decide_eq_false q0, cond_false]
theorem Abl : Bo Tryz.prog 101 sd_laws_heldStore :=
 At (pat := Cr) [] Fu (Au (l := [(44, sd_laws_heldState)]) ⟨Abi, trivial⟩) trivial Tryz.func101 (de := fun x => Ml x.1 x.2.1) (fun x r h => Az (Abk x.1 x.2.1) h) fun _ => by kernel_rfl
def Mm (a : List Opn) (k : Int) : Option Int := L7 B7 a k
def Ag7 : Sig := ⟨[.rd (.sl B7), .rd tI], [none, none], [.rd tI], [none]⟩
noncomputable def sd_laws_heldOpS : SD := ⟨Ag7, fun x => (Mm x.1 x.2.1).bind fun r => some ((r, ()), (()))⟩
noncomputable def ta_laws_heldOpS : Tb := tb [(99, sd_laws_markText)]
def pa_laws_heldOpS : Nat → Pat × (Nat → Pat) := Fe [(3, ⟨[.sl 0 0 B7], [(0, .lf (.d (.sl B7))), (1, .lf (.d tI)), (5, .lf (.d tI))], []⟩, [(2, ⟨[], [(1, .lf (.d tI))], []⟩), (1, ⟨[], [(4, .lf (.d tI))], []⟩)])]
noncomputable def co_laws_heldOpS_3 : Code := (Ao (A8 Tryz.f102)).getD 0 .skip
def Ek (v0 : List Opn) (v1 : Int) (v5 : Int) : Nat := ((v0.length : Int) - v5).toNat + 1
noncomputable def Hr {R : Type}  (NX : ((List Opn) × (Int) × (Int) × Unit) → Option R) (X2 : ((Int) × Unit) → Option R) (X1 : ((Int) × Unit) → Option R) (v0 : List Opn) (v1 : Int) (v5 : Int) : Option R :=
 bif decide (v5 < nI v0.length) then bif decide (0 ≤ v5) then bif decide (v5 < nI v0.length) then bif !(v0.getD v5.toNat (false, 0, ByteArray.mk #[], ())).1 == (v1.tmod 3 == 0) then X1 (-1, ()) else bif decide (0 ≤ v5) then bif decide (v5 < nI v0.length) then bif (v0.getD v5.toNat (false, 0, ByteArray.mk #[], ())).2.1 != IntKind.i64.wrap (v1 + 1) then X1 (-1, ()) else bif decide (0 ≤ v5) then bif decide (v5 < nI v0.length) then ((A5 (IntKind.i64.wrap (IntKind.i64.wrap (v1 + 1) + 1))).bind fun val => some ((val, ()), ())).bind fun val => bif !ByteArray.toList (v0.getD v5.toNat (false, 0, ByteArray.mk #[], ())).2.2.1 == ByteArray.toList val.1.1 then X1 (-1, ()) else NX (v0, IntKind.i64.wrap (IntKind.i64.wrap (IntKind.i64.wrap (v1 + 1) + 1) + 1), IntKind.i64.wrap (v5 + 1), ()) else none else none else none else none else none else none else X2 (v1, ())
noncomputable def Be : Nat → (List Opn) → (Int) → (Int) →  Option (((Int) × Unit) ⊕ ((Int) × Unit))
 | 0, _, _, _ => none
 | m + 1, v0, v1, v5 => Hr  (fun d => Be m d.1 d.2.1 d.2.2.1) (fun d => some (.inl (d))) (fun d => some (.inr (d))) v0 v1 v5
noncomputable def Pa (a0 : List Opn) (a1 : Int) : Option ((((Int) × Unit) × (Unit))) :=
 ((fun d => Be (Ek d.1 d.2.1 d.2.2.1) d.1 d.2.1 d.2.2.1) (a0, a1, 0, ())).bind fun val => Cs (fun val => some (val, ())) (fun val => some (val, ())) val
theorem Ag8 (a0 : List Opn) (a1 : Int) r (h : Mm a0 a1 = some r) : Pa a0 a1 = some ((r, ()), (())) := by
 obtain ⟨g0, g1, hl0, rfl⟩ := Ajz (t := B7) h
 have hl : a0.length ≤ 1125899906842624 := hl0
 have hEE : (fun k : Int => (show Opn from (mkE B7 k).1)) = (fun k : Int => (decide ((k) % 3 = 0), k + 1, Kl (k + 2), ())) := funext fun k => by
  show (decide ((k) % 3 = 0), k + 1, Kl (k + 1 + 1), ()) = (decide ((k) % 3 = 0), k + 1, Kl (k + 2), ())
  try simp only [Int.add_assoc, Int.add_zero]
  try rfl
 show _ = some ((if eqL (α := Opn) (fun x y : Opn => Lv B7 x y) a0 (gL (fun k : Int => (show Opn from (mkE B7 k).1)) 3 a0.length a1) = true then a1 + (a0.length : Int) * 3 else -1, ()), ())
 rw [hEE]
 unfold Pa
 have hL := Ado (xs := a0) (false, 0, (ByteArray.mk #[]), ()) (fun x y : Opn => Lv B7 x y) (fun k : Int => (decide ((k) % 3 = 0), k + 1, Kl (k + 2), ())) 3 (K := 36028797018963000) (g := fun m k i => Be m a0 k i) (ok := fun k => .inl (k, ())) (bad := .inr (-1, ())) (fun m i k hi h1 hK => by
  show Be (m + 1) a0 k i = bif (fun x y : Opn => Lv B7 x y) (List.getD (α := Opn) a0 i (false, 0, (ByteArray.mk #[]), ())) ((fun k : Int => (decide ((k) % 3 = 0), k + 1, Kl (k + 2), ())) k) then Be m a0 (k + 3) ((i + 1 : Nat) : Int) else _
  have hK1 : k + 3 ≤ 36028797018963000 := by
   have : (1 : Int) ≤ (a0.length - i : Nat) := by omega
   omega
  have hE : (fun x y : Opn => Lv B7 x y) (List.getD (α := Opn) a0 i (false, 0, (ByteArray.mk #[]), ())) ((fun k : Int => (decide ((k) % 3 = 0), k + 1, Kl (k + 2), ())) k) = (eqO (List.getD (α := Opn) a0 i (false, 0, (ByteArray.mk #[]), ())).1 (decide ((k + 0) % 3 = 0)) && (R6 (List.getD (α := Opn) a0 i (false, 0, (ByteArray.mk #[]), ())).2.1 (k + 1) && (eqS (List.getD (α := Opn) a0 i (false, 0, (ByteArray.mk #[]), ())).2.2.1 (Kl (k + 2)) && true))) := by
   try simp only [Int.add_zero]
   try rfl
  rw [hE, show Be (m + 1) a0 k i = Be (m + 1) a0 (k + 0) i from by rw [Int.add_zero]]
  have k0 : k = k + 0 := (Int.add_zero k).symm
  have t2 : A5 (k + 2) = some (Kl (k + 2)) := if_pos (by omega)
  have w0 : IntKind.i64.wrap (k + 0 + 1) = k + 1 := by rw [Ad (by omega) (by omega)]; omega
  have w1 : IntKind.i64.wrap (k + 1 + 1) = k + 2 := by rw [Ad (by omega) (by omega)]; omega
  have w2 : IntKind.i64.wrap (k + 2 + 1) = k + 3 := by rw [Ad (by omega) (by omega)]; omega
  have u0 : (Int.tmod (k + 0) 3 == 0) = decide ((k + 0) % 3 = 0) := A1u (by omega)
  have v0 : (!((List.getD (α := Opn) a0 i (false, 0, (ByteArray.mk #[]), ())).1 == decide ((k + 0) % 3 = 0))) = !eqO (List.getD (α := Opn) a0 i (false, 0, (ByteArray.mk #[]), ())).1 (decide ((k + 0) % 3 = 0)) := rfl
  have v1 : ((List.getD (α := Opn) a0 i (false, 0, (ByteArray.mk #[]), ())).2.1 != k + 1) = !R6 (List.getD (α := Opn) a0 i (false, 0, (ByteArray.mk #[]), ())).2.1 (k + 1) := Aau _ _
  have v2 : (!(ByteArray.toList (List.getD (α := Opn) a0 i (false, 0, (ByteArray.mk #[]), ())).2.2.1 == ByteArray.toList (Kl (k + 2)))) = !eqS (List.getD (α := Opn) a0 i (false, 0, (ByteArray.mk #[]), ())).2.2.1 (Kl (k + 2)) := rfl
  simp only [Be, Hr]
  simp only [t2,  Option.bind_some, w0, w1, w2, u0,  Ou hi, F2, wI (show i < 4611686018427387904 by omega), cond_true, Int.toNat_natCast, v0, v1, v2]
  generalize eqO (List.getD (α := Opn) a0 i (false, 0, (ByteArray.mk #[]), ())).1 (decide ((k + 0) % 3 = 0)) = p0
  generalize R6 (List.getD (α := Opn) a0 i (false, 0, (ByteArray.mk #[]), ())).2.1 (k + 1) = p1
  generalize eqS (List.getD (α := Opn) a0 i (false, 0, (ByteArray.mk #[]), ())).2.2.1 (Kl (k + 2)) = p2
  cases p0 <;> cases p1 <;> cases p2 <;> rfl) (fun m k => by
  show Be (m + 1) a0 k a0.length = _
  simp only [Be, Hr]
  rw [I0]
  rfl) (Ek a0 a1 0) 0 a1 (by omega) (by simp [Ek]) g0 (by omega)
 have hL' : Be (Ek a0 a1 0) a0 a1 0 = _ := hL
 show (Be (Ek a0 a1 0) a0 a1 0).bind _ = some ((if eqL (α := Opn) (fun x y : Opn => Lv B7 x y) a0 (gL (fun k : Int => (decide ((k) % 3 = 0), k + 1, Kl (k + 2), ())) 3 a0.length a1) = true then a1 + (a0.length : Int) * 3 else -1, ()), ())
 rw [hL', List.drop_zero]
 cases eqL (α := Opn) (fun x y : Opn => Lv B7 x y) a0 (gL (fun k : Int => (decide ((k) % 3 = 0), k + 1, Kl (k + 2), ())) 3 a0.length a1) <;> rfl
noncomputable def Sh {R : Type} (k : Kt R) := (Cs (Iz (pa_laws_heldOpS 3) (.exit 0) 2 k) (Iz (pa_laws_heldOpS 3) .ret 1 k))
noncomputable def Yb {R : Type} : Lt R pa_laws_heldOpS := (Ef (pat := pa_laws_heldOpS) 3 (fun d k => (Be (Ek d.1 d.2.1 d.2.2.1) d.1 d.2.1 d.2.2.1).bind (Sh k)) Fu)
theorem Wm : As Tryz.prog ta_laws_heldOpS := Au ⟨Gi, trivial⟩
theorem Abm {R : Type} : Ay Tryz.prog R 43 0 pa_laws_heldOpS Yb co_laws_heldOpS_3 :=
 B6 (cfg := ⟨ta_laws_heldOpS, 0, 43, pa_laws_heldOpS⟩) 3 [] (fun NX X d => Hr  NX (fun e => X (.inl (e))) (fun e => X (.inr (e))) d.1 d.2.1 d.2.2.1) (fun m d => Be m d.1 d.2.1 d.2.2.1) (fun d => Ek d.1 d.2.1 d.2.2.1) Sh Wm trivial (fun f NX d => by unfold Hr; simp only [Am, Ap, Ah, Option.bind_assoc, Option.bind_none, Option.bind_some]) (fun _ _ _ => by kernel_rfl)
theorem Ag9 : Bo Tryz.prog 102 sd_laws_heldOpS :=
 At (pat := pa_laws_heldOpS) [co_laws_heldOpS_3] Yb Wm ⟨Abm, trivial⟩ Tryz.func102 (de := fun x => Pa x.1 x.2.1) (fun x r h => Az (Ag8 x.1 x.2.1) h) fun _ => by kernel_rfl
def Hf (a : Don) (k : Int) : Option Int := (L7 Aq a.2.1.2.2.2.2.2.2.1.1 k).bind fun r0 => if r0 < 0 then some (-1) else (L7 B7 a.2.2.1 r0).bind fun r1 =>  some (if r1 < 0 then -1 else r1)
def Ad2 : Sig := ⟨[.rd Auy, .rd tI], [some 12, none], [.rd tI], [none]⟩
noncomputable def sd_laws_heldDone : SD := ⟨Ad2, fun x => (Hf x.1 x.2.1).bind fun r => some ((r, ()), (()))⟩
noncomputable def Nv (a0 : Don) (a1 : Int) : Option ((((Int) × Unit) × (Unit))) :=
 ((Ik a0.2.1 a1).bind fun val => some ((val, ()), ())).bind fun val => bif decide (val.1.1 < 0) then some ((-1, ()), ()) else ((Mm a0.2.2.1 val.1.1).bind fun val => some ((val, ()), ())).bind fun val => bif decide (val.1.1 < 0) then some ((-1, ()), ()) else some val
theorem Ad3 (a0 : Don) (a1 : Int) r (h : Hf a0 a1 = some r) : Nv a0 a1 = some ((r, ()), (())) := by
 unfold Hf at h
 unfold Nv
 obtain ⟨r0, e0, h⟩ := Option.bind_eq_some_iff.1 h
 have e0 : L7 Aq a0.2.1.2.2.2.2.2.2.1.1 a1 = some r0 := e0
 simp only [Ik, Mm]
 simp only [e0, Option.bind_some]
 by_cases q0 : r0 < 0
 ·simp only [if_pos q0] at h; cases h; simp only [if_pos q0, decide_eq_true q0, cond_true, show decide ((-1 : Int) < 0) = true from rfl]
 ·simp only [if_neg q0] at h; simp only [if_neg q0, decide_eq_false q0, cond_false]
  obtain ⟨r1, e1, h⟩ := Option.bind_eq_some_iff.1 h
  have e1 : L7 B7 a0.2.2.1 r0 = some r1 := e1
  simp only [e1, Option.bind_some]
  by_cases q1 : r1 < 0
  ·simp only [if_pos q1] at h; cases h; simp only [if_pos q1, decide_eq_true q1, cond_true, show decide ((-1 : Int) < 0) = true from rfl]
  ·simp only [if_neg q1] at h; cases h; simp only [if_neg q1, decide_eq_false q1, cond_false]
theorem Ad4 : Bo Tryz.prog 27 sd_laws_heldDone :=
 At (pat := Cr) [] Fu (Au (l := [(101, sd_laws_heldStore), (102, sd_laws_heldOpS)]) ⟨Abl, Ag9, trivial⟩) trivial Tryz.func27 (de := fun x => Nv x.1 x.2.1) (fun x r h => Az (Ad3 x.1 x.2.1) h) fun _ => by kernel_rfl
def Il (a : List ByteArray) (left : Int) : Option Int := szM (.sl .str) a left
def Abn : Sig := ⟨[.rd (.sl .str), .rd tI], [none, none], [.rd tI], [none]⟩
noncomputable def sd_laws_szStringS : SD := ⟨Abn, fun x => (Il x.1 x.2.1).bind fun r => some ((r, ()), (()))⟩
noncomputable def ta_laws_szStringS : Tb := tb []
def pa_laws_szStringS : Nat → Pat × (Nat → Pat) := Fe [(6, ⟨[.sl 0 0 .str], [(0, .lf (.d (.sl .str))), (1, .lf (.d tI)), (5, .lf (.d tI))], []⟩, [(2, ⟨[], [(1, .lf (.d tI))], []⟩), (1, ⟨[], [(4, .lf (.d tI))], []⟩)])]
noncomputable def co_laws_szStringS_6 : Code := (Ao (A8 Tryz.f103)).getD 0 .skip
def Di (v0 : List ByteArray) (v1 : Int) (v5 : Int) : Nat := ((v0.length : Int) - v5).toNat + 1
noncomputable def F7 {R : Type}  (NX : ((List ByteArray) × (Int) × (Int) × Unit) → Option R) (X2 : ((Int) × Unit) → Option R) (X1 : ((Int) × Unit) → Option R) (v0 : List ByteArray) (v1 : Int) (v5 : Int) : Option R :=
 bif decide (v5 < nI v0.length) then bif decide (0 ≤ v5) then bif decide (v5 < nI v0.length) then bif decide (IntKind.i64.wrap (v1 - nI (ByteArray.size (v0.getD v5.toNat (ByteArray.mk #[])))) < 0) then X1 (-1, ()) else NX (v0, IntKind.i64.wrap (v1 - nI (ByteArray.size (v0.getD v5.toNat (ByteArray.mk #[])))), IntKind.i64.wrap (v5 + 1), ()) else none else none else X2 (v1, ())
noncomputable def Bq : Nat → (List ByteArray) → (Int) → (Int) →  Option (((Int) × Unit) ⊕ ((Int) × Unit))
 | 0, _, _, _ => none
 | m + 1, v0, v1, v5 => F7  (fun d => Bq m d.1 d.2.1 d.2.2.1) (fun d => some (.inl (d))) (fun d => some (.inr (d))) v0 v1 v5
noncomputable def Mn (a0 : List ByteArray) (a1 : Int) : Option ((((Int) × Unit) × (Unit))) :=
 bif decide (IntKind.i64.wrap (a1 - nI a0.length) < 0) then some ((-1, ()), ()) else ((fun d => Bq (Di d.1 d.2.1 d.2.2.1) d.1 d.2.1 d.2.2.1) (a0, IntKind.i64.wrap (a1 - nI a0.length), 0, ())).bind fun val => Cs (fun val => some (val, ())) (fun val => some (val, ())) val
theorem Abo (a0 : List ByteArray) (a1 : Int) r (h : Il a0 a1 = some r) : Mn a0 a1 = some ((r, ()), (())) := by
 obtain ⟨hc, g0, g1, rfl⟩ := Aas (t := .sl .str) h
 obtain ⟨hl0, hall⟩ := Ks hc
 have hl : a0.length < 1152921504606846976 := hl0
 clear hl0 hc
 ·unfold Mn
  have hw1 : IntKind.i64.wrap (a1 - nI a0.length) = a1 - (a0.length : Int) := Ad (by simp only [nI]; omega) (by simp only [nI]; omega)
  rw [hw1]
  have hL := Apy (xs := a0) (ByteArray.mk #[]) ByteArray.size (g := fun m l i => Bq m a0 l i) (ok := fun l => .inl (l, ())) (bad := .inr (-1, ())) (fun m i l hi h0 h1 => by
   show Bq (m + 1) a0 l i = _
   simp only [Bq, F7]
   rw [Ou hi, F2, wI (by omega)]
   simp only [cond_true, Int.toNat_natCast]
   have hf : ByteArray.size (List.getD (α := ByteArray) a0 i (ByteArray.mk #[])) < 1152921504606846976 := Aoc (hall _ (Ot (ByteArray.mk #[]) hi))
   have hw : IntKind.i64.wrap (l - nI (ByteArray.size (List.getD (α := ByteArray) a0 i (ByteArray.mk #[])))) = l - (ByteArray.size (List.getD (α := ByteArray) a0 i (ByteArray.mk #[])) : Int) := Ad (by simp only [nI]; omega) (by simp only [nI]; omega)
   simp only [hw]
  ) (fun m l => by
   show Bq (m + 1) a0 l a0.length = _
   simp only [Bq, F7]
   rw [I0]
   rfl) (Di a0 (a1 - (a0.length : Int)) 0) 0 (a1 - (a0.length : Int)) (by omega) (by simp [Di])
  have hW : wt (.sl .str) a0 = a0.length + (a0.map ByteArray.size).sum := rfl
  rw [hW]
  by_cases q : a1 - (a0.length : Int) < 0
  ·simp only [decide_eq_true q, cond_true]; rw [if_pos (by omega)]
  ·simp only [decide_eq_false q, cond_false]
   have hL := hL (by omega) (by omega)
   rw [List.drop_zero] at hL
   show (Bq (Di a0 (a1 - (a0.length : Int)) 0) a0 (a1 - (a0.length : Int)) 0).bind _ = _
   have hL' : Bq (Di a0 (a1 - (a0.length : Int)) 0) a0 (a1 - (a0.length : Int)) 0 = _ := hL
   rw [hL']
   have hsum : a1 - ((a0.length + (a0.map ByteArray.size).sum : Nat) : Int) = a1 - (a0.length : Int) - ((a0.map ByteArray.size).sum : Int) := by omega
   rw [hsum]
   by_cases q2 : a1 - (a0.length : Int) - ((a0.map ByteArray.size).sum : Int) < 0
   ·simp only [if_pos q2]; rfl
   ·simp only [if_neg q2]; rfl
noncomputable def Pk {R : Type} (k : Kt R) := (Cs (Iz (pa_laws_szStringS 6) (.exit 0) 2 k) (Iz (pa_laws_szStringS 6) .ret 1 k))
noncomputable def Ue {R : Type} : Lt R pa_laws_szStringS := (Ef (pat := pa_laws_szStringS) 6 (fun d k => (Bq (Di d.1 d.2.1 d.2.2.1) d.1 d.2.1 d.2.2.1).bind (Pk k)) Fu)
theorem Si : As Tryz.prog ta_laws_szStringS := Au trivial
theorem Zs {R : Type} : Ay Tryz.prog R 28 0 pa_laws_szStringS Ue co_laws_szStringS_6 :=
 B6 (cfg := ⟨ta_laws_szStringS, 0, 28, pa_laws_szStringS⟩) 6 [] (fun NX X d => F7  NX (fun e => X (.inl (e))) (fun e => X (.inr (e))) d.1 d.2.1 d.2.2.1) (fun m d => Bq m d.1 d.2.1 d.2.2.1) (fun d => Di d.1 d.2.1 d.2.2.1) Pk Si trivial (fun f NX d => by unfold F7; simp only [Am, Ap, Ah, Option.bind_assoc, Option.bind_none, Option.bind_some]) (fun _ _ _ => by kernel_rfl)
theorem Abp : Bo Tryz.prog 103 sd_laws_szStringS :=
 At (pat := pa_laws_szStringS) [co_laws_szStringS_6] Ue Si ⟨Zs, trivial⟩ Tryz.func103 (de := fun x => Mn x.1 x.2.1) (fun x r h => Az (Abo x.1 x.2.1) h) fun _ => by kernel_rfl
def Mo (a : Wr) (left : Int) : Option Int := szM Eb a left
def Aha : Sig := ⟨[.rd Eb, .rd tI], [some 2, none], [.rd tI], [none]⟩
noncomputable def sd_laws_szWrite : SD := ⟨Aha, fun x => (Mo x.1 x.2.1).bind fun r => some ((r, ()), (()))⟩
noncomputable def Pb (a0 : Wr) (a1 : Int) : Option ((((Int) × Unit) × (Unit))) :=
 bif decide (IntKind.i64.wrap (a1 - nI (ByteArray.size a0.2.1)) < 0) then some ((-1, ()), ()) else some ((IntKind.i64.wrap (a1 - nI (ByteArray.size a0.2.1)), ()), ())
theorem Ahb (a0 : Wr) (a1 : Int) r (h : Mo a0 a1 = some r) : Pb a0 a1 = some ((r, ()), (())) := by
 obtain ⟨hc, g0, g1, rfl⟩ := Aas (t := Eb) h
 obtain ⟨hc0, hc1, _⟩ : A4 tI a0.1 = true ∧ A4 .str a0.2.1 = true ∧ True := by
  have s := hc
  obtain ⟨h0, s⟩ := Aj s
  obtain ⟨h1, s⟩ := Aj s
  exact ⟨h0, h1, trivial⟩
 unfold Pb
 have hwt : (wt Eb a0 : Int) = (ByteArray.size a0.2.1 : Int) := by simp only [wt]; omega
 rw [hwt]
 have hs0 : ByteArray.size a0.2.1 < 1152921504606846976 := Aoc hc1
 have e0 : IntKind.i64.wrap (a1 - nI (ByteArray.size a0.2.1)) = a1 - (ByteArray.size a0.2.1 : Int) := Ad (by simp only [nI]; omega) (by simp only [nI]; omega)
 simp only [e0]
 by_cases q0 : a1 - (ByteArray.size a0.2.1 : Int) < 0
 ·simp only [decide_eq_true q0, cond_true]; try rw [if_pos (by omega)]
 ·simp only [decide_eq_false q0, cond_false]
  try rw [if_neg q0]
theorem Ahc : Bo Tryz.prog 178 sd_laws_szWrite :=
 At (pat := Cr) [] Fu (Au (l := []) trivial) trivial Tryz.func178 (de := fun x => Pb x.1 x.2.1) (fun x r h => Az (Ahb x.1 x.2.1) h) fun _ => by kernel_rfl
def Je (a : List Wr) (left : Int) : Option Int := szM (.sl Eb) a left
def Ad5 : Sig := ⟨[.rd (.sl Eb), .rd tI], [none, none], [.rd tI], [none]⟩
noncomputable def sd_laws_szWriteS : SD := ⟨Ad5, fun x => (Je x.1 x.2.1).bind fun r => some ((r, ()), (()))⟩
noncomputable def ta_laws_szWriteS : Tb := tb [(178, sd_laws_szWrite)]
def pa_laws_szWriteS : Nat → Pat × (Nat → Pat) := Fe [(6, ⟨[.sl 0 0 Eb], [(0, .lf (.d (.sl Eb))), (1, .lf (.d tI)), (5, .lf (.d tI))], []⟩, [(2, ⟨[], [(1, .lf (.d tI))], []⟩), (1, ⟨[], [(4, .lf (.d tI))], []⟩)])]
noncomputable def co_laws_szWriteS_6 : Code := (Ao (A8 Tryz.f104)).getD 0 .skip
def Dv (v0 : List Wr) (v1 : Int) (v5 : Int) : Nat := ((v0.length : Int) - v5).toNat + 1
noncomputable def Gs {R : Type}  (NX : ((List Wr) × (Int) × (Int) × Unit) → Option R) (X2 : ((Int) × Unit) → Option R) (X1 : ((Int) × Unit) → Option R) (v0 : List Wr) (v1 : Int) (v5 : Int) : Option R :=
 bif decide (v5 < nI v0.length) then bif decide (0 ≤ v5) then bif decide (v5 < nI v0.length) then ((Mo (v0.getD v5.toNat (0, ByteArray.mk #[], ())) v1).bind fun val => some ((val, ()), ())).bind fun val => bif decide (val.1.1 < 0) then X1 (-1, ()) else NX (v0, val.1.1, IntKind.i64.wrap (v5 + 1), ()) else none else none else X2 (v1, ())
noncomputable def Bx : Nat → (List Wr) → (Int) → (Int) →  Option (((Int) × Unit) ⊕ ((Int) × Unit))
 | 0, _, _, _ => none
 | m + 1, v0, v1, v5 => Gs  (fun d => Bx m d.1 d.2.1 d.2.2.1) (fun d => some (.inl (d))) (fun d => some (.inr (d))) v0 v1 v5
noncomputable def Nw (a0 : List Wr) (a1 : Int) : Option ((((Int) × Unit) × (Unit))) :=
 bif decide (IntKind.i64.wrap (a1 - nI a0.length) < 0) then some ((-1, ()), ()) else ((fun d => Bx (Dv d.1 d.2.1 d.2.2.1) d.1 d.2.1 d.2.2.1) (a0, IntKind.i64.wrap (a1 - nI a0.length), 0, ())).bind fun val => Cs (fun val => some (val, ())) (fun val => some (val, ())) val
theorem Ad6 (a0 : List Wr) (a1 : Int) r (h : Je a0 a1 = some r) : Nw a0 a1 = some ((r, ()), (())) := by
 obtain ⟨hc, g0, g1, rfl⟩ := Aas (t := .sl Eb) h
 obtain ⟨hl0, hall⟩ := Ks hc
 have hl : a0.length < 1152921504606846976 := hl0
 clear hl0 hc
 ·unfold Nw
  have hw1 : IntKind.i64.wrap (a1 - nI a0.length) = a1 - (a0.length : Int) := Ad (by simp only [nI]; omega) (by simp only [nI]; omega)
  rw [hw1]
  have hL := Apy (xs := a0) (0, (ByteArray.mk #[]), ()) (fun x : Wr => wt Eb x) (g := fun m l i => Bx m a0 l i) (ok := fun l => .inl (l, ())) (bad := .inr (-1, ())) (fun m i l hi h0 h1 => by
   show Bx (m + 1) a0 l i = _
   simp only [Bx, Gs]
   rw [Ou hi, F2, wI (by omega)]
   simp only [cond_true, Int.toNat_natCast]
   have hE : Mo (List.getD (α := Wr) a0 i (0, (ByteArray.mk #[]), ())) l = some (if l - (wt Eb (List.getD (α := Wr) a0 i (0, (ByteArray.mk #[]), ())) : Int) < 0 then -1 else l - wt Eb (List.getD (α := Wr) a0 i (0, (ByteArray.mk #[]), ()))) := by
    exact Ap0 (t := Eb) (x := (List.getD (α := Wr) a0 i (0, (ByteArray.mk #[]), ()))) (hall _ (Ot (0, (ByteArray.mk #[]), ()) hi)) h0 h1
   rw [hE]
   by_cases q : l - (wt Eb (List.getD (α := Wr) a0 i (0, (ByteArray.mk #[]), ())) : Int) < 0
   ·simp only [if_pos q, decide_eq_true q, Option.bind_some, cond_true]; rfl
   ·simp only [if_neg q, decide_eq_false q, Option.bind_some, cond_false]
  ) (fun m l => by
   show Bx (m + 1) a0 l a0.length = _
   simp only [Bx, Gs]
   rw [I0]
   rfl) (Dv a0 (a1 - (a0.length : Int)) 0) 0 (a1 - (a0.length : Int)) (by omega) (by simp [Dv])
  have hW : wt (.sl Eb) a0 = a0.length + (a0.map (fun x : Wr => wt Eb x)).sum := rfl
  rw [hW]
  by_cases q : a1 - (a0.length : Int) < 0
  ·simp only [decide_eq_true q, cond_true]; rw [if_pos (by omega)]
  ·simp only [decide_eq_false q, cond_false]
   have hL := hL (by omega) (by omega)
   rw [List.drop_zero] at hL
   show (Bx (Dv a0 (a1 - (a0.length : Int)) 0) a0 (a1 - (a0.length : Int)) 0).bind _ = _
   have hL' : Bx (Dv a0 (a1 - (a0.length : Int)) 0) a0 (a1 - (a0.length : Int)) 0 = _ := hL
   rw [hL']
   have hsum : a1 - ((a0.length + (a0.map (fun x : Wr => wt Eb x)).sum : Nat) : Int) = a1 - (a0.length : Int) - ((a0.map (fun x : Wr => wt Eb x)).sum : Int) := by omega
   rw [hsum]
   by_cases q2 : a1 - (a0.length : Int) - ((a0.map (fun x : Wr => wt Eb x)).sum : Int) < 0
   ·simp only [if_pos q2]; rfl
   ·simp only [if_neg q2]; rfl
noncomputable def Qv {R : Type} (k : Kt R) := (Cs (Iz (pa_laws_szWriteS 6) (.exit 0) 2 k) (Iz (pa_laws_szWriteS 6) .ret 1 k))
noncomputable def Wn {R : Type} : Lt R pa_laws_szWriteS := (Ef (pat := pa_laws_szWriteS) 6 (fun d k => (Bx (Dv d.1 d.2.1 d.2.2.1) d.1 d.2.1 d.2.2.1).bind (Qv k)) Fu)
theorem Uf : As Tryz.prog ta_laws_szWriteS := Au ⟨Ahc, trivial⟩
theorem n9 {R : Type} : Ay Tryz.prog R 27 0 pa_laws_szWriteS Wn co_laws_szWriteS_6 :=
 B6 (cfg := ⟨ta_laws_szWriteS, 0, 27, pa_laws_szWriteS⟩) 6 [] (fun NX X d => Gs  NX (fun e => X (.inl (e))) (fun e => X (.inr (e))) d.1 d.2.1 d.2.2.1) (fun m d => Bx m d.1 d.2.1 d.2.2.1) (fun d => Dv d.1 d.2.1 d.2.2.1) Qv Uf trivial (fun f NX d => by unfold Gs; simp only [Am, Ap, Ah, Option.bind_assoc, Option.bind_none, Option.bind_some]) (fun _ _ _ => by kernel_rfl)
theorem Ad7 : Bo Tryz.prog 104 sd_laws_szWriteS :=
 At (pat := pa_laws_szWriteS) [co_laws_szWriteS_6] Wn Uf ⟨n9, trivial⟩ Tryz.func104 (de := fun x => Nw x.1 x.2.1) (fun x r h => Az (Ad6 x.1 x.2.1) h) fun _ => by kernel_rfl
def Ok (a : Dk) (left : Int) : Option Int := szM yDk a left
def Aku : Sig := ⟨[.rd yDk, .rd tI], [some 2, none], [.rd tI], [none]⟩
noncomputable def sd_laws_szDisk : SD := ⟨Aku, fun x => (Ok x.1 x.2.1).bind fun r => some ((r, ()), (()))⟩
noncomputable def Qw (a0 : Dk) (a1 : Int) : Option ((((Int) × Unit) × (Unit))) :=
 ((Il a0.1 a1).bind fun val => some ((val, ()), ())).bind fun val => bif decide (val.1.1 < 0) then some ((-1, ()), ()) else ((Je a0.2.1 val.1.1).bind fun val => some ((val, ()), ())).bind fun val => bif decide (val.1.1 < 0) then some ((-1, ()), ()) else some val
theorem Akv (a0 : Dk) (a1 : Int) r (h : Ok a0 a1 = some r) : Qw a0 a1 = some ((r, ()), (())) := by
 obtain ⟨hc, g0, g1, rfl⟩ := Aas (t := yDk) h
 obtain ⟨hc0, hc1, _⟩ : A4 (.sl .str) a0.1 = true ∧ A4 (.sl Eb) a0.2.1 = true ∧ True := by
  have s := hc
  obtain ⟨h0, s⟩ := Aj s
  obtain ⟨h1, s⟩ := Aj s
  exact ⟨h0, h1, trivial⟩
 unfold Qw
 have hwt : (wt yDk a0 : Int) = (wt (.sl .str) a0.1 : Int) + (wt (.sl Eb) a0.2.1 : Int) := by simp only [wt]; omega
 rw [hwt]
 have e0 : Il a0.1 (a1) = some (if a1 - (wt (.sl .str) a0.1 : Int) < 0 then -1 else a1 - (wt (.sl .str) a0.1 : Int)) := Ap0 (t := (.sl .str)) (x := a0.1) hc0 (by omega) (by omega)
 simp only [show Il a0.1 (a1) = _ from e0, Option.bind_some]
 by_cases q0 : a1 - (wt (.sl .str) a0.1 : Int) < 0
 ·simp only [if_pos q0, show decide ((-1 : Int) < 0) = true from rfl, cond_true]; try rw [if_pos (by omega)]
 ·simp only [if_neg q0, decide_eq_false q0, cond_false]
  have e1 : Je a0.2.1 (a1 - (wt (.sl .str) a0.1 : Int)) = some (if a1 - (wt (.sl .str) a0.1 : Int) - (wt (.sl Eb) a0.2.1 : Int) < 0 then -1 else a1 - (wt (.sl .str) a0.1 : Int) - (wt (.sl Eb) a0.2.1 : Int)) := Ap0 (t := (.sl Eb)) (x := a0.2.1) hc1 (by omega) (by omega)
  simp only [show Je a0.2.1 (a1 - (wt (.sl .str) a0.1 : Int)) = _ from e1, Option.bind_some]
  by_cases q1 : a1 - (wt (.sl .str) a0.1 : Int) - (wt (.sl Eb) a0.2.1 : Int) < 0
  ·simp only [if_pos q1, show decide ((-1 : Int) < 0) = true from rfl, cond_true]; try rw [if_pos (by omega)]
  ·simp only [if_neg q1, decide_eq_false q1, cond_false]
   rw [if_neg (by omega)]
   simp only [Int.sub_sub, Int.add_assoc]
theorem Akw : Bo Tryz.prog 28 sd_laws_szDisk :=
 At (pat := Cr) [] Fu (Au (l := [(103, sd_laws_szStringS), (104, sd_laws_szWriteS)]) ⟨Abp, Ad7, trivial⟩) trivial Tryz.func28 (de := fun x => Qw x.1 x.2.1) (fun x r h => Az (Akv x.1 x.2.1) h) fun _ => by kernel_rfl
def A3 (n : Int) : Int := An n
def Akx : Sig := ⟨[.rd tI], [none], [.rd tI], [none]⟩
noncomputable def sd_spec_Halves : SD := ⟨Akx, fun x => some (((A3 x.1), ()), (()))⟩
noncomputable def Qx (a0 : Int) : Option ((((Int) × Unit) × (Unit))) :=
 bif decide (a0 < 8) then some ((0, ()), ()) else bif decide (a0 > 200) then some ((0, ()), ()) else some ((IntKind.i64.wrap ((IntKind.i64.wrap (a0 - 2)).tdiv 2), ()), ())
theorem Aky (a0 : Int) : Qx a0 = some (((A3 a0), ()), (())) := by
 unfold Qx A3 An
 rw [Aj2]
 cases h : E9 a0 8 200 with
 | false => rfl
 | true =>
  obtain ⟨h1, h2⟩ := Hb h
  rw [Afz h1 h2]
  rfl
theorem Qy : Bo Tryz.prog 55 sd_spec_Halves :=
 At (pat := Cr) [] Fu (Au (l := []) trivial) trivial Tryz.func55 (de := fun x => Qx x.1) (fun x r h => (Aky x.1).trans h) fun _ => by kernel_rfl
def Jz (k : ByteArray) : Bool := Lw k
def Ahd : Sig := ⟨[.rd .str], [none], [.rd .bool], [none]⟩
noncomputable def sd_spec_l4KeyOk : SD := ⟨Ahd, fun x => some (((Jz x.1), ()), (()))⟩
noncomputable def Pc (a0 : ByteArray) : Option ((((Bool) × Unit) × (Unit))) :=
 bif decide (nI a0.size ≥ 1) then some ((decide (nI a0.size ≤ 20), ()), ()) else some ((false, ()), ())
theorem Ahe (a0 : ByteArray) : Pc a0 = some ((Jz a0, ()), ()) := by
 unfold Pc Jz Lw E9
 by_cases h : (a0.size : Int) ≥ 1
 ·have : decide ((1 : Int) ≤ (a0.size : Int)) = true := by simpa using h
  simp [nI, this]
 ·have h' : ¬ (1 : Int) ≤ (a0.size : Int) := h
  simp [nI, h']
theorem Wo : Bo Tryz.prog 160 sd_spec_l4KeyOk :=
 At (pat := Cr) [] Fu (Au (l := []) trivial) trivial Tryz.func160 (de := fun x => Pc x.1) (fun x r h => (Ahe x.1).trans h) fun _ => by kernel_rfl
def Hs (b : List Chg) : Bool := Bd b
def o5 : Sig := ⟨[.rd (.sl Du)], [none], [.rd .bool], [none]⟩
noncomputable def sd_spec_ValidBatch : SD := ⟨o5, fun x => some (((Hs x.1), ()), (()))⟩
noncomputable def ta_spec_ValidBatch : Tb := tb [(160, sd_spec_l4KeyOk)]
def pa_spec_ValidBatch : Nat → Pat × (Nat → Pat) := Fe [(5, ⟨[.sl 0 0 Du], [(0, .lf (.d (.sl Du))), (3, .lf (.d tI))], []⟩, [(2, p0), (1, ⟨[], [(2, .lf (.d .bool))], []⟩)])]
noncomputable def co_spec_ValidBatch_5 : Code := (Ao (A8 Tryz.f79)).getD 0 .skip
def Fi (v0 : List Chg) (v3 : Int) : Nat := ((v0.length : Int) - v3).toNat + 1
noncomputable def Fj {R : Type}  (NX : ((List Chg) × (Int) × Unit) → Option R) (X2 : (Unit) → Option R) (X1 : ((Bool) × Unit) → Option R) (v0 : List Chg) (v3 : Int) : Option R :=
 bif decide (v3 < nI v0.length) then bif decide (0 ≤ v3) then bif decide (v3 < nI v0.length) then bif !Jz (v0.getD v3.toNat (ByteArray.mk #[], ByteArray.mk #[], false, ())).1 then X1 (false, ()) else bif decide (0 ≤ v3) then bif decide (v3 < nI v0.length) then bif decide (nI (ByteArray.size (v0.getD v3.toNat (ByteArray.mk #[], ByteArray.mk #[], false, ())).2.1) > 100) then X1 (false, ()) else bif decide (0 ≤ v3) then bif decide (v3 < nI v0.length) then bif (v0.getD v3.toNat (ByteArray.mk #[], ByteArray.mk #[], false, ())).2.2.1 then bif decide (0 ≤ v3) then bif decide (v3 < nI v0.length) then bif !ByteArray.toList (v0.getD v3.toNat (ByteArray.mk #[], ByteArray.mk #[], false, ())).2.1 == (ByteArray.mk #[]).toList then X1 (false, ()) else NX (v0, IntKind.i64.wrap (v3 + 1), ()) else none else none else NX (v0, IntKind.i64.wrap (v3 + 1), ()) else none else none else none else none else none else none else X2 PUnit.unit
noncomputable def B4 : Nat → (List Chg) → (Int) →  Option ((Unit) ⊕ ((Bool) × Unit))
 | 0, _, _ => none
 | m + 1, v0, v3 => Fj  (fun d => B4 m d.1 d.2.1) (fun d => some (.inl (d))) (fun d => some (.inr (d))) v0 v3
noncomputable def Li (a0 : List Chg) : Option ((((Bool) × Unit) × (Unit))) :=
 bif decide (nI a0.length < 1) then some ((false, ()), ()) else bif decide (nI a0.length > 20) then some ((false, ()), ()) else ((fun d => B4 (Fi d.1 d.2.1) d.1 d.2.1) (a0, 0, ())).bind fun val => Cs (fun val => some ((true, ()), ())) (fun val => some (val, ())) val
theorem o6 (a0 : List Chg) : Li a0 = some (((Hs a0), ()), (())) := by
 unfold Li Hs Bd
 have tl : ByteArray.toList (ByteArray.mk #[]) = [] := by decide +kernel
 rw [Aj2 (nI (List.length a0))]
 show (bif E9 (a0.length : Int) 1 20 then _ else _) = _
 cases hin : E9 (a0.length : Int) 1 20 with
 | false => rfl
 | true =>
  have hlen : a0.length ≤ 20 := by have := (Hb hin).2; omega
  have hL := Ma (n := a0.length) (fun i => L8 (a0.getD i zC)) (g := fun m i => B4 m a0 i) (ok := .inl ()) (bad := .inr (false, ())) (fun m i hi => by
   show B4 (m + 1) a0 i = _
   simp only [B4, Fj]
   rw [tl, Ou hi, F2, wI (show i < 4611686018427387904 by omega), Int.toNat_natCast]
   have g1 : decide (nI (ByteArray.size (List.getD a0 i (ByteArray.mk #[], ByteArray.mk #[], false, ())).2.1) > 100) = !decide ((a0.getD i zC).2.1.size ≤ 100) := Aav _ 100
   rw [g1]
   show (bif !Lw (a0.getD i zC).1 then _ else (bif _ then _ else (bif (a0.getD i zC).2.2.1 then (bif !((a0.getD i zC).2.1.toList == []) then _ else _) else _))) = _
   unfold L8
   cases Lw (a0.getD i zC).1 <;> cases decide ((a0.getD i zC).2.1.size ≤ 100) <;> cases (a0.getD i zC).2.2.1 <;> cases ((a0.getD i zC).2.1.toList == []) <;> rfl) (fun m => by
   show B4 (m + 1) a0 (a0.length : Int) = _
   simp only [B4, Fj]
   rw [I0]
   rfl) (Fi a0 0) 0 (by omega) (by simp [Fi, nI])
  refine Tk hL ?_
  rw [Nat.sub_zero]
  cases (List.range' 0 a0.length).all (fun i => L8 (a0.getD i zC)) <;> rfl
noncomputable def Ov {R : Type} (k : Kt R) := (Cs (Iz (pa_spec_ValidBatch 5) (.exit 0) 2 k) (Iz (pa_spec_ValidBatch 5) .ret 1 k))
noncomputable def Sj {R : Type} : Lt R pa_spec_ValidBatch := (Ef (pat := pa_spec_ValidBatch) 5 (fun d k => (B4 (Fi d.1 d.2.1) d.1 d.2.1).bind (Ov k)) Fu)
theorem Qz : As Tryz.prog ta_spec_ValidBatch := Au ⟨Wo, trivial⟩
theorem Yc {R : Type} : Ay Tryz.prog R 49 0 pa_spec_ValidBatch Sj co_spec_ValidBatch_5 :=
 B6 (cfg := ⟨ta_spec_ValidBatch, 0, 49, pa_spec_ValidBatch⟩) 5 [] (fun NX X d => Fj  NX (fun e => X (.inl (e))) (fun e => X (.inr (e))) d.1 d.2.1) (fun m d => B4 m d.1 d.2.1) (fun d => Fi d.1 d.2.1) Ov Qz trivial (fun f NX d => by unfold Fj; simp only [Am, Ap, Ah, Option.bind_assoc, Option.bind_none, Option.bind_some]) (fun _ _ _ => by kernel_rfl)
theorem Q0 : Bo Tryz.prog 79 sd_spec_ValidBatch :=
 At (pat := pa_spec_ValidBatch) [co_spec_ValidBatch_5] Sj Qz ⟨Yc, trivial⟩ Tryz.func79 (de := fun x => Li x.1) (fun x r h => (o6 x.1).trans h) fun _ => by kernel_rfl
def D7 (b : List Chg) : ByteArray := Ff b
def Abq : Sig := ⟨[.rd (.sl Du)], [none], [.rd .str], [none]⟩
noncomputable def sd_spec_FormBatch : SD := ⟨Abq, fun x => some (((D7 x.1), ()), (()))⟩
noncomputable def ta_spec_FormBatch : Tb := tb [(79, sd_spec_ValidBatch)]
def pa_spec_FormBatch : Nat → Pat × (Nat → Pat) := Fe [(6, ⟨[.sl 0 0 Du, .row 3 0 5 (.int .u8)], [(0, .lf (.d (.sl Du))), (3, .lf (.row 0)), (4, .lf (.d tI))], [.row 5 (.int .u8)]⟩, [(2, ⟨[.row 3 0 5 (.int .u8)], [(3, .lf (.row 0))], [.row 5 (.int .u8)]⟩)])]
noncomputable def co_spec_FormBatch_6 : Code := (Ao (A8 Tryz.f82)).getD 0 .skip
def F8 (v0 : List Chg) (v4 : Int) (r0 : List Int) : Nat := ((v0.length : Int) - v4).toNat + 1
noncomputable def F9 {R : Type}  (NX : ((List Chg) × (Int) × (List Int) × Unit) → Option R) (X2 : ((List Int) × Unit) → Option R) (v0 : List Chg) (v4 : Int) (r0 : List Int) : Option R :=
 bif decide (v4 < nI v0.length) then bif decide (0 ≤ v4) then bif decide (v4 < nI v0.length) then bif (v0.getD v4.toNat (ByteArray.mk #[], ByteArray.mk #[], false, ())).2.2.1 then bif decide (0 ≤ v4) then bif decide (v4 < nI v0.length) then bif decide ((r0.length + [1, IntKind.u8.wrap (nI (ByteArray.size (v0.getD v4.toNat (ByteArray.mk #[], ByteArray.mk #[], false, ())).1))].length) * 1 ≤ 140737488355328) then bif decide (0 ≤ v4) then bif decide (v4 < nI v0.length) then bif decide ((r0 ++ [1, IntKind.u8.wrap (nI (ByteArray.size (v0.getD v4.toNat (ByteArray.mk #[], ByteArray.mk #[], false, ())).1))]).length + ByteArray.size (v0.getD v4.toNat (ByteArray.mk #[], ByteArray.mk #[], false, ())).1 ≤ 140737488355328) then NX (v0, IntKind.i64.wrap (v4 + 1), r0 ++ [1, IntKind.u8.wrap (nI (ByteArray.size (v0.getD v4.toNat (ByteArray.mk #[], ByteArray.mk #[], false, ())).1))] ++ Aa (v0.getD v4.toNat (ByteArray.mk #[], ByteArray.mk #[], false, ())).1, ()) else none else none else none else none else none else none else bif decide (0 ≤ v4) then bif decide (v4 < nI v0.length) then bif decide ((r0.length + [0, IntKind.u8.wrap (nI (ByteArray.size (v0.getD v4.toNat (ByteArray.mk #[], ByteArray.mk #[], false, ())).1))].length) * 1 ≤ 140737488355328) then bif decide (0 ≤ v4) then bif decide (v4 < nI v0.length) then bif decide ((r0 ++ [0, IntKind.u8.wrap (nI (ByteArray.size (v0.getD v4.toNat (ByteArray.mk #[], ByteArray.mk #[], false, ())).1))]).length + ByteArray.size (v0.getD v4.toNat (ByteArray.mk #[], ByteArray.mk #[], false, ())).1 ≤ 140737488355328) then bif decide (0 ≤ v4) then bif decide (v4 < nI v0.length) then bif decide (((r0 ++ [0, IntKind.u8.wrap (nI (ByteArray.size (v0.getD v4.toNat (ByteArray.mk #[], ByteArray.mk #[], false, ())).1))] ++ Aa (v0.getD v4.toNat (ByteArray.mk #[], ByteArray.mk #[], false, ())).1).length + [IntKind.u8.wrap (nI (ByteArray.size (v0.getD v4.toNat (ByteArray.mk #[], ByteArray.mk #[], false, ())).2.1))].length) * 1 ≤ 140737488355328) then bif decide (0 ≤ v4) then bif decide (v4 < nI v0.length) then bif decide ((r0 ++ [0, IntKind.u8.wrap (nI (ByteArray.size (v0.getD v4.toNat (ByteArray.mk #[], ByteArray.mk #[], false, ())).1))] ++ Aa (v0.getD v4.toNat (ByteArray.mk #[], ByteArray.mk #[], false, ())).1 ++ [IntKind.u8.wrap (nI (ByteArray.size (v0.getD v4.toNat (ByteArray.mk #[], ByteArray.mk #[], false, ())).2.1))]).length + ByteArray.size (v0.getD v4.toNat (ByteArray.mk #[], ByteArray.mk #[], false, ())).2.1 ≤ 140737488355328) then NX (v0, IntKind.i64.wrap (v4 + 1), r0 ++ [0, IntKind.u8.wrap (nI (ByteArray.size (v0.getD v4.toNat (ByteArray.mk #[], ByteArray.mk #[], false, ())).1))] ++ Aa (v0.getD v4.toNat (ByteArray.mk #[], ByteArray.mk #[], false, ())).1 ++ [IntKind.u8.wrap (nI (ByteArray.size (v0.getD v4.toNat (ByteArray.mk #[], ByteArray.mk #[], false, ())).2.1))] ++ Aa (v0.getD v4.toNat (ByteArray.mk #[], ByteArray.mk #[], false, ())).2.1, ()) else none else none else none else none else none else none else none else none else none else none else none else none else none else none else X2 (r0, ())
noncomputable def Ca : Nat → (List Chg) → (Int) → (List Int) →  Option ((List Int) × Unit)
 | 0, _, _, _ => none
 | m + 1, v0, v4, r0 => F9  (fun d => Ca m d.1 d.2.1 d.2.2.1) (fun d => some (d)) v0 v4 r0
noncomputable def Mq (a0 : List Chg) : Option ((((ByteArray) × Unit) × (Unit))) :=
 bif !Hs a0 then some ((ByteArray.mk #[], ()), ()) else ((fun d => Ca (F8 d.1 d.2.1 d.2.2.1) d.1 d.2.1 d.2.2.1) (a0, 0, [], ())).bind fun val => some ((strOfNums val.1, ()), ())
theorem Abr (a0 : List Chg) : Mq a0 = some ((D7 a0, ()), (())) := by
 unfold Mq D7 Ff
 show (bif !Bd a0 then _ else _) = _
 cases hv : Bd a0 with
 | false => rfl
 | true =>
  obtain ⟨hlen, hok⟩ := Oi hv
  have hL := Zl a0.length Aj4 (fun i r => r ++ P0 (a0.getD i zC)) (g := fun m i r => Ca m a0 i r) (ok := fun r => (r, ())) (fun m i r hi hr => by
   show Ca (m + 1) a0 i r = _
   simp only [Ca, F9]
   have hc := hok i hi
   obtain ⟨k1, k2, k3⟩ := Zm hc
   rw [Ou hi, F2, wI (show i < 4611686018427387904 by omega), Int.toNat_natCast]
   have hr1 := hr.1
   have eC : List.getD a0 i (ByteArray.mk #[], ByteArray.mk #[], false, ()) = a0.getD i zC := rfl
   rw [eC]
   generalize a0.getD i zC = c at *
   rw [A1w _ (show c.1.size < 256 by omega), A1w _ (show c.2.1.size < 256 by omega)]
   simp only [List.length_append, List.length_cons, List.length_nil, Cp]
   rw [decide_eq_true (show (r.length + (0 + 1 + 1)) * 1 ≤ 140737488355328 by omega), decide_eq_true (show r.length + (0 + 1 + 1) + c.1.size ≤ 140737488355328 by omega), decide_eq_true (show (r.length + (0 + 1 + 1) + c.1.size + (0 + 1)) * 1 ≤ 140737488355328 by omega), decide_eq_true (show r.length + (0 + 1 + 1) + c.1.size + (0 + 1) + c.2.1.size ≤ 140737488355328 by omega)]
   unfold P0
   simp only [cond_true]
   cases c.2.2.1 <;> simp only [cond_true, cond_false, List.append_assoc]) (fun m r _ => by
   show Ca (m + 1) a0 (a0.length : Int) r = _
   simp only [Ca, F9]
   rw [I0]
   rfl) (fun i r hi hr => hr.step (hok i hi)) a0.length (F8 a0 0 []) 0 [] (by omega) (by simp [F8, nI]) ⟨by simp, rfl⟩
  rw [Aj3 P0 zC a0 a0.length 0 [] (by omega), List.nil_append, List.drop_zero] at hL
  refine Tk hL ?_
  rfl
noncomputable def Pl {R : Type} (k : Kt R) := (Iz (pa_spec_FormBatch 6) (.exit 0) 2 k)
noncomputable def Ug {R : Type} : Lt R pa_spec_FormBatch := (Ef (pat := pa_spec_FormBatch) 6 (fun d k => (Ca (F8 d.1 d.2.1 d.2.2.1) d.1 d.2.1 d.2.2.1).bind (Pl k)) Fu)
theorem Sk : As Tryz.prog ta_spec_FormBatch := Au ⟨Q0, trivial⟩
theorem Zt {R : Type} : Ay Tryz.prog R 70 0 pa_spec_FormBatch Ug co_spec_FormBatch_6 :=
 B6 (cfg := ⟨ta_spec_FormBatch, 0, 70, pa_spec_FormBatch⟩) 6 [] (fun NX X d => F9  NX X d.1 d.2.1 d.2.2.1) (fun m d => Ca m d.1 d.2.1 d.2.2.1) (fun d => F8 d.1 d.2.1 d.2.2.1) Pl Sk trivial (fun f NX d => by unfold F9; simp only [Am, Ap, Ah, Option.bind_assoc, Option.bind_none, Option.bind_some]) (fun _ _ _ => by kernel_rfl)
theorem Mr : Bo Tryz.prog 82 sd_spec_FormBatch :=
 At (pat := pa_spec_FormBatch) [co_spec_FormBatch_6] Ug Sk ⟨Zt, trivial⟩ Tryz.func82 (de := fun x => Mq x.1) (fun x r h => (Abr x.1).trans h) fun _ => by kernel_rfl
def Ht (s : Stt) : Bool := Bf s
def o7 : Sig := ⟨[.rd Py], [some 1], [.rd .bool], [none]⟩
noncomputable def sd_spec_ValidState : SD := ⟨o7, fun x => some (((Ht x.1), ()), (()))⟩
noncomputable def ta_spec_ValidState : Tb := tb [(160, sd_spec_l4KeyOk)]
def pa_spec_ValidState : Nat → Pat × (Nat → Pat) := Fe [(5, ⟨[.boxSl 1 0 Aq], [(1, .lf (.ptr 0 0)), (3, .lf (.d tI))], [.box 31 [.d (.sl Aq)]]⟩, [(2, p0), (1, ⟨[], [(2, .lf (.d .bool))], []⟩)])]
noncomputable def co_spec_ValidState_5 : Code := (Ao (A8 Tryz.f73)).getD 0 .skip
def C0 (v3 : Int) (b0_0 : List Pr2) : Nat := ((b0_0.length : Int) - v3).toNat + 1
noncomputable def Fk {R : Type}  (NX : ((Int) × (List Pr2) × Unit) → Option R) (X2 : (Unit) → Option R) (X1 : ((Bool) × Unit) → Option R) (v3 : Int) (b0_0 : List Pr2) : Option R :=
 bif decide (v3 < nI b0_0.length) then bif decide (0 ≤ v3) then bif decide (v3 < nI b0_0.length) then bif !Jz (b0_0.getD v3.toNat (ByteArray.mk #[], ByteArray.mk #[], ())).1 then X1 (false, ()) else bif decide (0 ≤ v3) then bif decide (v3 < nI b0_0.length) then bif decide (nI (ByteArray.size (b0_0.getD v3.toNat (ByteArray.mk #[], ByteArray.mk #[], ())).2.1) > 100) then X1 (false, ()) else bif decide (v3 > 0) then bif decide (0 ≤ IntKind.i64.wrap (v3 - 1)) then bif decide (IntKind.i64.wrap (v3 - 1) < nI b0_0.length) then bif decide (0 ≤ v3) then bif decide (v3 < nI b0_0.length) then bif !Op.bytesLess (ByteArray.toList (b0_0.getD (IntKind.i64.wrap (v3 - 1)).toNat (ByteArray.mk #[], ByteArray.mk #[], ())).1) (ByteArray.toList (b0_0.getD v3.toNat (ByteArray.mk #[], ByteArray.mk #[], ())).1) then X1 (false, ()) else NX (IntKind.i64.wrap (v3 + 1), b0_0, ()) else none else none else none else none else NX (IntKind.i64.wrap (v3 + 1), b0_0, ()) else none else none else none else none else X2 PUnit.unit
noncomputable def Bk : Nat → (Int) → (List Pr2) →  Option ((Unit) ⊕ ((Bool) × Unit))
 | 0, _, _ => none
 | m + 1, v3, b0_0 => Fk  (fun d => Bk m d.1 d.2.1) (fun d => some (.inl (d))) (fun d => some (.inr (d))) v3 b0_0
noncomputable def Lj (a0 : Stt) : Option ((((Bool) × Unit) × (Unit))) :=
 bif decide (nI (List.length a0.1) > 100) then some ((false, ()), ()) else ((fun d => Bk (C0 d.1 d.2.1) d.1 d.2.1) (0, a0)).bind fun val => Cs (fun val => some ((true, ()), ())) (fun val => some (val, ())) val
theorem o8 (a0 : Stt) : Lj a0 = some ((Ht a0, ()), ()) := by
 unfold Lj Ht Bf
 have c1 : decide (nI a0.1.length > 100) = !decide (a0.1.length ≤ 100) := Aav _ 100
 by_cases hl : a0.1.length ≤ 100
 ·have hL := Ma (n := a0.1.length) (Ja a0.1) (g := fun m i => Bk m i a0.1) (ok := .inl ()) (bad := .inr (false, ())) (fun m i hi => by
   show Bk (m + 1) i a0.1 = _
   simp only [Bk, Fk]
   have g1 : decide (nI (ByteArray.size (List.getD a0.1 i (ByteArray.mk #[], ByteArray.mk #[], ())).2.1) > 100) = !decide (ByteArray.size (List.getD a0.1 i zP).2.1 ≤ 100) := Aav _ 100
   rw [Ou hi, F2, wI (show i < 4611686018427387904 by omega), Int.toNat_natCast, gt0, g1]
   simp only [cond_true]
   unfold Ja bl
   show (bif !Lw (List.getD a0.1 i zP).1 then _ else _) = _
   cases i with
   | zero =>
    show (bif !Lw (List.getD a0.1 0 zP).1 then _ else bif !decide (ByteArray.size (List.getD a0.1 0 zP).2.1 ≤ 100) then _ else _) = _
    cases Lw (List.getD a0.1 0 zP).1 <;> cases decide (ByteArray.size (List.getD a0.1 0 zP).2.1 ≤ 100) <;> rfl
   | succ j =>
    rw [wP j (by omega), F2, Ou (show j < a0.1.length by omega)]
    show (bif !Lw (List.getD a0.1 (j + 1) zP).1 then _ else bif !decide (ByteArray.size (List.getD a0.1 (j + 1) zP).2.1 ≤ 100) then _ else bif !Op.bytesLess (ByteArray.toList (List.getD a0.1 j zP).1) (ByteArray.toList (List.getD a0.1 (j + 1) zP).1) then _ else _) = _
    rw [Nat.add_sub_cancel]
    cases Lw (List.getD a0.1 (j + 1) zP).1 <;> cases decide (ByteArray.size (List.getD a0.1 (j + 1) zP).2.1 ≤ 100) <;> cases Op.bytesLess (ByteArray.toList (List.getD a0.1 j zP).1) (ByteArray.toList (List.getD a0.1 (j + 1) zP).1) <;> rfl) (fun m => by
   show Bk (m + 1) (a0.1.length : Int) a0.1 = _
   simp only [Bk, Fk]
   rw [I0]
   rfl) (C0 0 a0.1) 0 (by omega) (by simp [C0, nI])
  have hL' : Bk (C0 0 a0.1) 0 a0.1 = _ := hL
  rw [c1, decide_eq_true hl]
  show (Bk (C0 0 a0.1) 0 a0.1).bind _ = _
  rw [hL']
  cases (List.range' 0 (a0.1.length - 0)).all (Ja a0.1) <;> rfl
 ·rw [c1, decide_eq_false hl]
  rfl
noncomputable def Ow {R : Type} (k : Kt R) := (Cs (Iz (pa_spec_ValidState 5) (.exit 0) 2 k) (Iz (pa_spec_ValidState 5) .ret 1 k))
noncomputable def Sm {R : Type} : Lt R pa_spec_ValidState := (Ef (pat := pa_spec_ValidState) 5 (fun d k => (Bk (C0 d.1 d.2.1) d.1 d.2.1).bind (Ow k)) Fu)
theorem Q1 : As Tryz.prog ta_spec_ValidState := Au ⟨Wo, trivial⟩
theorem Yd {R : Type} : Ay Tryz.prog R 53 0 pa_spec_ValidState Sm co_spec_ValidState_5 :=
 B6 (cfg := ⟨ta_spec_ValidState, 0, 53, pa_spec_ValidState⟩) 5 [] (fun NX X d => Fk  NX (fun e => X (.inl (e))) (fun e => X (.inr (e))) d.1 d.2.1) (fun m d => Bk m d.1 d.2.1) (fun d => C0 d.1 d.2.1) Ow Q1 trivial (fun f NX d => by unfold Fk; simp only [Am, Ap, Ah, Option.bind_assoc, Option.bind_none, Option.bind_some]) (fun _ _ _ => by kernel_rfl)
theorem Q2 : Bo Tryz.prog 73 sd_spec_ValidState :=
 At (pat := pa_spec_ValidState) [co_spec_ValidState_5] Sm Q1 ⟨Yd, trivial⟩ Tryz.func73 (de := fun x => Lj x.1) (fun x r h => (o8 x.1).trans h) fun _ => by kernel_rfl
def Hg (s : Stt) : List (List Chg) := Cy s
def Ad8 : Sig := ⟨[.rd Py], [some 1], [.rd (.sl (.sl Du))], [none]⟩
noncomputable def sd_spec_Snapshot : SD := ⟨Ad8, fun x => some (((Hg x.1), ()), (()))⟩
noncomputable def ta_spec_Snapshot : Tb := tb [(73, sd_spec_ValidState)]
def pa_spec_Snapshot : Nat → Pat × (Nat → Pat) := Fe [(6, ⟨[.last 3 131 Du, .boxSl 1 0 Aq], [(1, .lf (.ptr 0 0)), (3, .lf (.row 1)), (4, .lf (.d tI))], [.box 31 [.d (.sl Aq)], .last 59 Du 2, .row 131 Du]⟩, [(2, ⟨[.last 3 131 Du], [(3, .lf (.row 0))], [.last 59 Du 1, .row 131 Du]⟩)])]
noncomputable def co_spec_Snapshot_6 : Code := (Ao (A8 Tryz.f140)).getD 0 .skip
def Dw (v4 : Int) (b0_0 : List Pr2) (r1 : List (List Chg)) (c1 : Bool) (r2 : List Chg) : Nat := ((b0_0.length : Int) - v4).toNat + 1
noncomputable def Gt {R : Type}  (NX : ((Int) × (List Pr2) × (List (List Chg)) × (Bool) × (List Chg) × Unit) → Option R) (X2 : ((List (List Chg)) × (Bool) × (List Chg) × Unit) → Option R) (v4 : Int) (b0_0 : List Pr2) (r1 : List (List Chg)) (c1 : Bool) (r2 : List Chg) : Option R :=
 bif decide (v4 < nI b0_0.length) then bif v4.tmod 20 == 0 then bif decide ((r1.length + c1.toNat + 1) * 24 ≤ 140737488355328) then bif decide (0 ≤ IntKind.i64.wrap (nI ((bif c1 then r1 ++ [r2] else r1).length + true.toNat) - 1)) then bif decide (IntKind.i64.wrap (nI ((bif c1 then r1 ++ [r2] else r1).length + true.toNat) - 1) < nI ((bif c1 then r1 ++ [r2] else r1).length + true.toNat)) then bif decide ((IntKind.i64.wrap (nI ((bif c1 then r1 ++ [r2] else r1).length + true.toNat) - 1)).toNat = (bif c1 then r1 ++ [r2] else r1).length) then bif decide (0 ≤ v4) then bif decide (v4 < nI b0_0.length) then bif decide (0 ≤ v4) then bif decide (v4 < nI b0_0.length) then bif decide (0 ≤ IntKind.i64.wrap (nI ((bif c1 then r1 ++ [r2] else r1).length + true.toNat) - 1)) then bif decide (IntKind.i64.wrap (nI ((bif c1 then r1 ++ [r2] else r1).length + true.toNat) - 1) < nI ((bif c1 then r1 ++ [r2] else r1).length + true.toNat)) then bif decide ((IntKind.i64.wrap (nI ((bif c1 then r1 ++ [r2] else r1).length + true.toNat) - 1)).toNat = (bif c1 then r1 ++ [r2] else r1).length) then NX (IntKind.i64.wrap (v4 + 1), b0_0, bif c1 then r1 ++ [r2] else r1, true, [] ++ [((b0_0.getD v4.toNat (ByteArray.mk #[], ByteArray.mk #[], ())).1, (b0_0.getD v4.toNat (ByteArray.mk #[], ByteArray.mk #[], ())).2.1, false, ())], ()) else none else none else none else none else none else none else none else none else none else none else none else bif decide (0 ≤ IntKind.i64.wrap (nI (r1.length + c1.toNat) - 1)) then bif decide (IntKind.i64.wrap (nI (r1.length + c1.toNat) - 1) < nI (r1.length + c1.toNat)) then bif c1 then bif decide ((IntKind.i64.wrap (nI (r1.length + c1.toNat) - 1)).toNat = r1.length) then bif decide (0 ≤ v4) then bif decide (v4 < nI b0_0.length) then bif decide (0 ≤ v4) then bif decide (v4 < nI b0_0.length) then bif decide ((r2.length + [((b0_0.getD v4.toNat (ByteArray.mk #[], ByteArray.mk #[], ())).1, (b0_0.getD v4.toNat (ByteArray.mk #[], ByteArray.mk #[], ())).2.1, false, ())].length) * 40 ≤ 140737488355328) then bif decide (0 ≤ IntKind.i64.wrap (nI (r1.length + c1.toNat) - 1)) then bif decide (IntKind.i64.wrap (nI (r1.length + c1.toNat) - 1) < nI (r1.length + c1.toNat)) then bif c1 then bif decide ((IntKind.i64.wrap (nI (r1.length + c1.toNat) - 1)).toNat = r1.length) then NX (IntKind.i64.wrap (v4 + 1), b0_0, r1, c1, r2 ++ [((b0_0.getD v4.toNat (ByteArray.mk #[], ByteArray.mk #[], ())).1, (b0_0.getD v4.toNat (ByteArray.mk #[], ByteArray.mk #[], ())).2.1, false, ())], ()) else none else none else none else none else none else none else none else none else none else none else none else none else none else X2 (r1, c1, r2, ())
noncomputable def By : Nat → (Int) → (List Pr2) → (List (List Chg)) → (Bool) → (List Chg) →  Option ((List (List Chg)) × (Bool) × (List Chg) × Unit)
 | 0, _, _, _, _, _ => none
 | m + 1, v4, b0_0, r1, c1, r2 => Gt  (fun d => By m d.1 d.2.1 d.2.2.1 d.2.2.2.1 d.2.2.2.2.1) (fun d => some (d)) v4 b0_0 r1 c1 r2
noncomputable def Nx (a0 : Stt) : Option ((((List (List Chg)) × Unit) × (Unit))) :=
 bif !Ht a0 then some (([], ()), ()) else ((fun d => By (Dw d.1 d.2.1 d.2.2.1 d.2.2.2.1 d.2.2.2.2.1) d.1 d.2.1 d.2.2.1 d.2.2.2.1 d.2.2.2.2.1) (0, a0.1, [], false, [], ())).bind fun val => some ((bif val.2.1 then val.1 ++ [val.2.2.1] else val.1, ()), ())
theorem Ad9 (a0 : Stt) : Nx a0 = some (((Hg a0), ()), (())) := by
 unfold Nx Hg Cy
 show (bif !Bf a0 then _ else _) = _
 cases hv : Bf a0 with
 | false => rfl
 | true =>
  have hl := Fh hv
  have hL := E4 (xs := a0.1) zP Aoj Oq (g := fun m i s => By m i a0.1 s.1 s.2.1 s.2.2) (ok := fun s => (s.1, s.2.1, s.2.2, ())) (fun m i s hi hI => by
   show By (m + 1) i a0.1 s.1 s.2.1 s.2.2 = _
   obtain ⟨r0, c0, r1⟩ := s
   obtain ⟨h1, h2, h3, h4⟩ := hI
   simp only at h2 h3 h4 ⊢
   simp only [By, Gt]
   rw [Ou hi, F2, wI (show i < 4611686018427387904 by omega), Int.toNat_natCast, Azv]
   unfold Oq
   cases hc : (i % 20 == 0)
   ·have hp : 0 < i := Nat.pos_of_ne_zero fun q => by subst q; cases hc
    have hc0 := h3 hp
    subst hc0
    have e1 := Ap1 r0.length (by omega)
    have e2 : decide ((r0.length : Int) < nI (r0.length + 1)) = true := Ou (Nat.lt_succ_self _)
    have e3 : decide ((r1.length + 1) * 40 ≤ 140737488355328) = true := decide_eq_true (by omega)
    simp only [Bool.toNat_true, List.length_singleton, cond_true, cond_false, e1, e2, e3, F2, Int.toNat_natCast, decide_true]
    rfl
   ·have hL : List.length (bif c0 then r0 ++ [r1] else r0) ≤ i + 1 := by cases c0 <;> simp <;> omega
    have e1 := Ap1 (List.length (bif c0 then r0 ++ [r1] else r0)) (by omega)
    have e2 : decide (((List.length (bif c0 then r0 ++ [r1] else r0) : Nat) : Int) < nI (List.length (bif c0 then r0 ++ [r1] else r0) + 1)) = true := Ou (Nat.lt_succ_self _)
    have e3 : decide ((r0.length + Bool.toNat c0 + 1) * 24 ≤ 140737488355328) = true := decide_eq_true (by cases c0 <;> simp <;> omega)
    simp only [Bool.toNat_true, cond_true, e1, e2, e3, F2, Int.toNat_natCast, decide_true]
    rfl) (fun i s hi hI => hI.step (by omega) _) (fun m s hI => by
   show By (m + 1) (a0.1.length : Int) a0.1 s.1 s.2.1 s.2.2 = _
   simp only [By, Gt]
   rw [I0]
   rfl) (Dw 0 a0.1 [] false []) 0 ([], false, []) (by omega) (by simp [Dw, nI]) ⟨by omega, by simp, fun q => by omega, by simp⟩
  have hL' : By (Dw 0 a0.1 [] false []) 0 a0.1 [] false [] = _ := hL
  show (By (Dw 0 a0.1 [] false []) 0 a0.1 [] false []).bind _ = _
  rw [hL']
  rfl
noncomputable def Q3 {R : Type} (k : Kt R) := (Iz (pa_spec_Snapshot 6) (.exit 0) 2 k)
noncomputable def Wp {R : Type} : Lt R pa_spec_Snapshot := (Ef (pat := pa_spec_Snapshot) 6 (fun d k => (By (Dw d.1 d.2.1 d.2.2.1 d.2.2.2.1 d.2.2.2.2.1) d.1 d.2.1 d.2.2.1 d.2.2.2.1 d.2.2.2.2.1).bind (Q3 k)) Fu)
theorem Uh : As Tryz.prog ta_spec_Snapshot := Au ⟨Q2, trivial⟩
theorem o9 {R : Type} : Ay Tryz.prog R 51 0 pa_spec_Snapshot Wp co_spec_Snapshot_6 :=
 B6 (cfg := ⟨ta_spec_Snapshot, 0, 51, pa_spec_Snapshot⟩) 6 [] (fun NX X (d : (Int) × (List Pr2) × (List (List Chg)) × (Bool) × (List Chg) × Unit) => Gt  NX X d.1 d.2.1 d.2.2.1 d.2.2.2.1 d.2.2.2.2.1) (fun m d => By m d.1 d.2.1 d.2.2.1 d.2.2.2.1 d.2.2.2.2.1) (fun d => Dw d.1 d.2.1 d.2.2.1 d.2.2.2.1 d.2.2.2.2.1) Q3 Uh trivial (fun f NX (d : (Int) × (List Pr2) × (List (List Chg)) × (Bool) × (List Chg) × Unit) => by unfold Gt; simp only [Am, Ap, Ah, Option.bind_assoc, Option.bind_none, Option.bind_some]) (fun _ _ _ => by kernel_rfl)
theorem Ui : Bo Tryz.prog 140 sd_spec_Snapshot :=
 At (pat := pa_spec_Snapshot) [co_spec_Snapshot_6] Wp Uh ⟨o9, trivial⟩ Tryz.func140 (de := fun x => Nx x.1) (fun x r h => (Ad9 x.1).trans h) fun _ => by kernel_rfl
def Ahf : Sig := ⟨[.rd tI], [none], [.rd .bool], [none]⟩
noncomputable def Wq (a0 : Int) : Option ((((Bool) × Unit) × (Unit))) :=
 bif decide (a0 ≥ 1) then some ((decide (a0 ≤ 8), ()), ()) else some ((false, ()), ())
noncomputable def sd_spec_l1Width : SD := ⟨Ahf, fun x => Wq x.1⟩
theorem Ev : Bo Tryz.prog 69 sd_spec_l1Width :=
 At (pat := Cr) [] Fu (Au (l := []) trivial) trivial Tryz.func69 (de := fun x => Wq x.1) (fun x r h => h) fun _ => by kernel_rfl
def Akz : Sig := ⟨[.rd tI], [none], [.rd tI], [none]⟩
noncomputable def Ye (a0 : Int) : Option ((((Int) × Unit) × (Unit))) :=
 some ((IntKind.i64.wrap (IntKind.i64.wrap (64 - a0) - 8), ()), ())
noncomputable def sd_spec_l1Part : SD := ⟨Akz, fun x => Ye x.1⟩
theorem Q4 : Bo Tryz.prog 74 sd_spec_l1Part :=
 At (pat := Cr) [] Fu (Au (l := []) trivial) trivial Tryz.func74 (de := fun x => Ye x.1) (fun x r h => h) fun _ => by kernel_rfl
def Gu (s : ByteArray) (w : Int) : Option (List ByteArray) := if s.size ≤ 1099511627776 ∧ 1 ≤ w ∧ w ≤ 8 then some (Ci s w) else none
def Hu (v0 : ByteArray) (v6 : Int) (r0 : List ByteArray) : Nat := v0.size + 1
def Ahg : Sig := ⟨[.rd .str, .rd tI], [none, none], [.own 9 .str], [none]⟩
noncomputable def sd_spec_l3Parts : SD := ⟨Ahg, fun x => (Gu x.1 x.2.1).bind fun r => some ((r, ()), (()))⟩
noncomputable def ta_spec_l3Parts : Tb := tb [(74, sd_spec_l1Part)]
def pa_spec_l3Parts : Nat → Pat × (Nat → Pat) := Fe [(4, ⟨[.row 5 0 9 .str], [(0, .lf (.d .str)), (5, .lf (.row 0)), (6, .lf (.d tI))], [.row 9 .str]⟩, [(2, ⟨[.row 5 0 9 .str], [(0, .lf (.d .str)), (5, .lf (.row 0))], [.row 9 .str]⟩)])]
noncomputable def co_spec_l3Parts_4 : Code := (Ao (A8 Tryz.f166)).getD 0 .skip
noncomputable def Fy {R : Type}  (NX : ((ByteArray) × (Int) × (List ByteArray) × Unit) → Option R) (X2 : ((ByteArray) × (List ByteArray) × Unit) → Option R) (v0 : ByteArray) (v6 : Int) (r0 : List ByteArray) : Option R :=
 bif decide (nI v0.size > v6) then bif decide (0 ≤ v6) then bif decide (v6 ≤ nI v0.size) then bif decide ((r0.length + [Ag v0 0 v6].length) * 16 ≤ 140737488355328) then bif decide (0 ≤ v6) then bif decide (v6 ≤ nI v0.size) then NX (Ag v0 v6 (nI v0.size), v6, r0 ++ [Ag v0 0 v6], ()) else none else none else none else none else none else X2 (v0, r0, ())
noncomputable def Do : Nat → (ByteArray) → (Int) → (List ByteArray) →  Option ((ByteArray) × (List ByteArray) × Unit)
 | 0, _, _, _ => none
 | m + 1, v0, v6, r0 => Fy  (fun d => Do m d.1 d.2.1 d.2.2.1) (fun d => some (d)) v0 v6 r0
noncomputable def Pd (a0 : ByteArray) (a1 : Int) : Option ((((List ByteArray) × Unit) × (Unit))) :=
 ((fun d => Do (Hu d.1 d.2.1 d.2.2.1) d.1 d.2.1 d.2.2.1) (a0, IntKind.i64.wrap (IntKind.i64.wrap (64 - a1) - 8), [], ())).bind fun val => bif decide ((val.2.1.length + [val.1].length) * 16 ≤ 140737488355328) then some ((val.2.1 ++ [val.1], ()), ()) else none
theorem Ak0 (n : Nat) (hn : 1 ≤ n) (hn2 : n ≤ 64) : ∀ (k m : Nat) (s : ByteArray) (r : List ByteArray), s.size ≤ k → k < m → r.length + s.size ≤ 1099511627777 →
  ∃ q t, Do m s n r = some (t, q, ()) ∧ q ++ [t] = r ++ Ez n k s ∧ q.length + 1 ≤ 1099511627778
 | 0, m + 1, s, r, hs, hm, hr => by
  refine ⟨r, s, ?_, rfl, by omega⟩
  simp only [Do, Fy]
  rw [decide_eq_false (show ¬ (nI s.size > (n : Int)) by simp only [nI]; omega)]
  rfl
 | k + 1, m + 1, s, r, hs, hm, hr => by
  by_cases q : s.size > n
  ·have hc : (Ag s n (nI s.size)).size = s.size - n := by rw [E3 (by omega) (by simp only [nI]; omega) (by simp [nI])]; simp only [nI]; omega
   obtain ⟨q', t', e1, e2, e3⟩ := Ak0 n hn hn2 k m (Ag s n (nI s.size)) (r ++ [Ag s 0 n]) (by omega) (by omega) (by rw [List.length_append, List.length_singleton]; omega)
   refine ⟨q', t', ?_, ?_, e3⟩
   ·simp only [Do, Fy]
    rw [decide_eq_true (show nI s.size > (n : Int) by simp only [nI]; omega), F2, decide_eq_true (show (n : Int) ≤ nI s.size by simp only [nI]; omega), decide_eq_true (show (r.length + [Ag s 0 n].length) * 16 ≤ 140737488355328 by rw [List.length_singleton]; omega)]
    exact e1
   ·rw [e2, List.append_assoc]
    simp only [Ez, if_pos q]
    rfl
  ·refine ⟨r, s, ?_, by simp only [Ez, if_neg q], by omega⟩
   simp only [Do, Fy]
   rw [decide_eq_false (show ¬ (nI s.size > (n : Int)) by simp only [nI]; omega)]
   rfl
theorem Ahh (a0 : ByteArray) (a1 : Int) r (h : Gu a0 a1 = some r) : Pd a0 a1 = some ((r, ()), (())) := by
 unfold Gu at h
 split at h
 ·rename_i hc
  cases h
  obtain ⟨h0, h1, h2⟩ := hc
  obtain ⟨n, hn⟩ : ∃ n : Nat, 56 - a1 = (n : Int) := ⟨(56 - a1).toNat, by omega⟩
  unfold Pd Ci
  rw [Ad (n := 64 - a1) (by omega) (by omega), Ad (n := 64 - a1 - 8) (by omega) (by omega), show 64 - a1 - 8 = 56 - a1 by omega, hn, Int.toNat_natCast]
  obtain ⟨q, t, e1, e2, e3⟩ := Ak0 n (by omega) (by omega) a0.size (Hu a0 n []) a0 [] (by omega) (by simp only [Hu]; omega) (by rw [List.length_nil]; omega)
  rw [List.nil_append] at e2
  refine Tk e1 ?_
  show (bif decide ((q.length + [t].length) * 16 ≤ 140737488355328) then some ((q ++ [t], ()), ()) else none) = _
  rw [decide_eq_true (by rw [List.length_singleton]; omega), e2]
  rfl
 ·cases h
noncomputable def Sn {R : Type} (k : Kt R) := (Iz (pa_spec_l3Parts 4) (.exit 0) 2 k)
noncomputable def Yf {R : Type} : Lt R pa_spec_l3Parts := (Ef (pat := pa_spec_l3Parts) 4 (fun d k => (Do (Hu d.1 d.2.1 d.2.2.1) d.1 d.2.1 d.2.2.1).bind (Sn k)) Fu)
theorem Ws : As Tryz.prog ta_spec_l3Parts := Au ⟨Q4, trivial⟩
theorem Abs {R : Type} : Ay Tryz.prog R 27 0 pa_spec_l3Parts Yf co_spec_l3Parts_4 :=
 B6 (cfg := ⟨ta_spec_l3Parts, 0, 27, pa_spec_l3Parts⟩) 4 [] (fun NX X d => Fy  NX X d.1 d.2.1 d.2.2.1) (fun m d => Do m d.1 d.2.1 d.2.2.1) (fun d => Hu d.1 d.2.1 d.2.2.1) Sn Ws trivial (fun f NX d => by unfold Fy; simp only [Am, Ap, Ah, Option.bind_assoc, Option.bind_none, Option.bind_some]) (fun _ _ _ => by kernel_rfl)
theorem Wt : Bo Tryz.prog 166 sd_spec_l3Parts :=
 At (pat := pa_spec_l3Parts) [co_spec_l3Parts_4] Yf Ws ⟨Abs, trivial⟩ Tryz.func166 (de := fun x => Pd x.1 x.2.1) (fun x r h => Az (Ahh x.1 x.2.1) h) fun _ => by kernel_rfl
def Ms (s : ByteArray) (w : Int) : Option Int := if s.size ≤ 1099511627776 then some (bif E9 w 1 8 then ((Ci s w).length : Int) else 0) else none
def Amp : Sig := ⟨[.rd .str, .rd tI], [none, none], [.rd tI], [none]⟩
noncomputable def sd_spec_Pages : SD := ⟨Amp, fun x => (Ms x.1 x.2.1).bind fun r => some ((r, ()), (()))⟩
noncomputable def Tf (a0 : ByteArray) (a1 : Int) : Option ((((Int) × Unit) × (Unit))) :=
 Option.bind (bif decide (a1 ≥ 1) then some ((decide (a1 ≤ 8), ()), ()) else some ((false, ()), ())) fun val => bif !val.1.1 then some ((0, ()), ()) else ((Gu a0 a1).bind fun val => some ((val, ()), ())).bind fun val => some ((nI (List.length val.1.1), ()), ())
theorem Amq (a0 : ByteArray) (a1 : Int) r (h : Ms a0 a1 = some r) : Tf a0 a1 = some ((r, ()), (())) := by
 unfold Ms at h
 split at h
 ·rename_i hc
  cases h
  unfold Tf
  refine Tk (wid a1) ?_
  show (bif !E9 a1 1 8 then _ else _) = _
  cases hw : E9 a1 1 8 with
  | false => rfl
  | true =>
   have n1 : Gu a0 a1 = some (Ci a0 a1) := if_pos ⟨hc, Hb hw⟩
   simp only [n1, Option.bind_some, Bool.not_true, cond_false, cond_true]
   try rfl
 ·cases h
theorem Amr : Bo Tryz.prog 141 sd_spec_Pages :=
 At (pat := Cr) [] Fu (Au (l := [(69, sd_spec_l1Width), (166, sd_spec_l3Parts)]) ⟨Ev, Wt, trivial⟩) trivial Tryz.func141 (de := fun x => Tf x.1 x.2.1) (fun x r h => Az (Amq x.1 x.2.1) h) fun _ => by kernel_rfl
def So (s : Stt) (w : Int) : Int := R9 s w
def Ap9 : Sig := ⟨[.rd Py, .rd tI], [some 1, none], [.rd tI], [none]⟩
noncomputable def sd_spec_Room : SD := ⟨Ap9, fun x => some (((So x.1 x.2.1), ()), (()))⟩
noncomputable def ta_spec_Room : Tb := tb [(82, sd_spec_FormBatch), (140, sd_spec_Snapshot), (141, sd_spec_Pages)]
def pa_spec_Room : Nat → Pat × (Nat → Pat) := Fe [(5, ⟨[.sl 6 0 (.sl Du)], [(1, .lf (.d tI)), (5, .lf (.d tI)), (6, .lf (.d (.sl (.sl Du)))), (7, .lf (.d tI))], []⟩, [(2, ⟨[], [(5, .lf (.d tI))], []⟩)])]
noncomputable def co_spec_Room_5 : Code := (Ao (A8 Tryz.f56)).getD 0 .skip
def Gv (v1 : Int) (v5 : Int) (v6 : List (List Chg)) (v7 : Int) : Nat := ((v6.length : Int) - v7).toNat + 1
noncomputable def J0 {R : Type}  (NX : ((Int) × (Int) × (List (List Chg)) × (Int) × Unit) → Option R) (X2 : ((Int) × Unit) → Option R) (v1 : Int) (v5 : Int) (v6 : List (List Chg)) (v7 : Int) : Option R :=
 bif decide (v7 < nI v6.length) then bif decide (0 ≤ v7) then bif decide (v7 < nI v6.length) then ((Ms (D7 (v6.getD v7.toNat [])) v1).bind fun val => some ((val, ()), ())).bind fun val => NX (v1, IntKind.i64.wrap (v5 + val.1.1), v6, IntKind.i64.wrap (v7 + 1), ()) else none else none else X2 (v5, ())
noncomputable def C1 : Nat → (Int) → (Int) → (List (List Chg)) → (Int) →  Option ((Int) × Unit)
 | 0, _, _, _, _ => none
 | m + 1, v1, v5, v6, v7 => J0  (fun d => C1 m d.1 d.2.1 d.2.2.1 d.2.2.2.1) (fun d => some (d)) v1 v5 v6 v7
noncomputable def V3 (a0 : Stt) (a1 : Int) : Option ((((Int) × Unit) × (Unit))) :=
 ((fun d => C1 (Gv d.1 d.2.1 d.2.2.1 d.2.2.2.1) d.1 d.2.1 d.2.2.1 d.2.2.2.1) (a1, 0, Hg a0, 0, ())).bind fun val => some (val, ())
theorem Aqa (a0 : Stt) (a1 : Int) : V3 a0 a1 = some (((So a0 a1), ()), (())) := by
 unfold V3 So
 have hl := P9 a0
 have hL := E4 (xs := Cy a0) [] Axy (fun _ b a => a + Eg (Ff b).size a1) (g := fun m i a => C1 m a1 a (Cy a0) i) (ok := fun a => (a, ())) (fun m i a hi hI => by
  show C1 (m + 1) a1 a (Cy a0) i = _
  simp only [C1, J0]
  rw [Ou hi, F2, wI (show i < 4611686018427387904 by omega), Int.toNat_natCast]
  have e1 : Ms (D7 (List.getD (Cy a0) i [])) a1 = some (Eg (Ff (List.getD (Cy a0) i [])).size a1) := by
    rw [← Asw]
    exact if_pos (Nat.le_trans (Lg _) (by decide))
  rw [e1]
  simp only [cond_true, Option.bind_some]
  rw [Aj6 hI]) (fun i a hi hI => hI.step (by omega) _ _) (fun m a hI => by
  show C1 (m + 1) a1 a (Cy a0) ((Cy a0).length : Int) = _
  simp only [C1, J0]
  rw [I0]
  rfl) (Gv a1 0 (Cy a0) 0) 0 0 (by omega) (by simp [Gv, nI]) ⟨by omega, by omega, by omega⟩
 have hL' : C1 (Gv a1 0 (Cy a0) 0) a1 0 (Cy a0) 0 = _ := hL
 show (C1 (Gv a1 0 (Cy a0) 0) a1 0 (Cy a0) 0).bind _ = _
 rw [hL', Ads, List.drop_zero, Asx, Int.zero_add]
 rfl
noncomputable def Yg {R : Type} (k : Kt R) := (Iz (pa_spec_Room 5) (.exit 0) 2 k)
noncomputable def Af8 {R : Type} : Lt R pa_spec_Room := (Ef (pat := pa_spec_Room) 5 (fun d k => (C1 (Gv d.1 d.2.1 d.2.2.1 d.2.2.2.1) d.1 d.2.1 d.2.2.1 d.2.2.2.1).bind (Yg k)) Fu)
theorem Abt : As Tryz.prog ta_spec_Room := Au ⟨Mr, Ui, Amr, trivial⟩
theorem Ak1 {R : Type} : Ay Tryz.prog R 26 0 pa_spec_Room Af8 co_spec_Room_5 :=
 B6 (cfg := ⟨ta_spec_Room, 0, 26, pa_spec_Room⟩) 5 [] (fun NX X d => J0  NX X d.1 d.2.1 d.2.2.1 d.2.2.2.1) (fun m d => C1 m d.1 d.2.1 d.2.2.1 d.2.2.2.1) (fun d => Gv d.1 d.2.1 d.2.2.1 d.2.2.2.1) Yg Abt trivial (fun f NX d => by unfold J0; simp only [Am, Ap, Ah, Option.bind_assoc, Option.bind_none, Option.bind_some]) (fun _ _ _ => by kernel_rfl)
theorem Aqb : Bo Tryz.prog 56 sd_spec_Room :=
 At (pat := pa_spec_Room) [co_spec_Room_5] Af8 Abt ⟨Ak1, trivial⟩ Tryz.func56 (de := fun x => V3 x.1 x.2.1) (fun x r h => (Aqa x.1 x.2.1).trans h) fun _ => by kernel_rfl
def Kf (d : Dk) (at_ : Int) (data : ByteArray) : Bool := Agr d.1.length (at_, data, ())
def Abu : Sig := ⟨[.rd yDk, .rd tI, .rd .str], [some 2, none, none], [.rd .bool], [none]⟩
noncomputable def sd_spec_l2WriteOk : SD := ⟨Abu, fun x => some (((Kf x.1 x.2.1 x.2.2.1), ()), (()))⟩
noncomputable def Mt (a0 : Dk) (a1 : Int) (a2 : ByteArray) : Option ((((Bool) × Unit) × (Unit))) :=
 bif decide (a1 ≥ 0) then bif decide (a1 < nI (List.length a0.1)) then some ((nI a2.size == 64, ()), ()) else some ((false, ()), ()) else some ((false, ()), ())
theorem Abv (a0 : Dk) (a1 : Int) (a2 : ByteArray) : Mt a0 a1 a2 = some ((Kf a0 a1 a2, ()), ()) := by
 unfold Mt Kf Agr
 have e : (nI (ByteArray.size a2) == 64) = decide (a2.size = 64) := by
  have := A02 a2.size 64
  simp only [bne] at this
  cases h : (nI (ByteArray.size a2) == ((64 : Nat) : Int)) <;> rw [h] at this <;> cases h2 : decide (a2.size = 64) <;> rw [h2] at this <;> first | (cases this; done) | exact h
 rw [e]
 by_cases h1 : a1 ≥ 0
 ·have : decide (0 ≤ a1) = true := by simpa using h1
  rw [decide_eq_true h1]
  simp only [this, cond_true, Bool.true_and, nI]
  cases decide (a1 < (a0.1.length : Int)) <;> rfl
 ·have : decide (0 ≤ a1) = false := by simpa using h1
  rw [decide_eq_false h1]
  simp only [this]
  rfl
theorem Abw : Bo Tryz.prog 159 sd_spec_l2WriteOk :=
 At (pat := Cr) [] Fu (Au (l := []) trivial) trivial Tryz.func159 (de := fun x => Mt x.1 x.2.1 x.2.2.1) (fun x r h => (Abv x.1 x.2.1 x.2.2.1).trans h) fun _ => by kernel_rfl
def Gl (d : Dk) : Bool := B8 d
def Abx : Sig := ⟨[.rd yDk], [some 2], [.rd .bool], [none]⟩
noncomputable def sd_spec_ValidDisk : SD := ⟨Abx, fun x => some (((Gl x.1), ()), (()))⟩
noncomputable def ta_spec_ValidDisk : Tb := tb [(159, sd_spec_l2WriteOk)]
def pa_spec_ValidDisk : Nat → Pat × (Nat → Pat) := Fe [(5, ⟨[.boxSl 1 0 .str, .boxSl 1 1 Eb], [(1, .lf (.ptr 0 0)), (3, .lf (.d tI))], [.box 26 [.d (.sl .str), .d (.sl Eb)]]⟩, [(2, ⟨[.boxSl 1 0 .str, .boxSl 1 1 Eb], [(1, .lf (.ptr 0 0))], [.box 26 [.d (.sl .str), .d (.sl Eb)]]⟩), (1, ⟨[], [(2, .lf (.d .bool))], []⟩)]), (10, ⟨[.boxSl 1 0 .str, .boxSl 1 1 Eb], [(1, .lf (.ptr 0 0)), (4, .lf (.d tI))], [.box 26 [.d (.sl .str), .d (.sl Eb)]]⟩, [(4, p0), (1, ⟨[], [(2, .lf (.d .bool))], []⟩)])]
noncomputable def co_spec_ValidDisk_5 : Code := (Ao (A8 Tryz.f70)).getD 0 .skip
noncomputable def co_spec_ValidDisk_10 : Code := (Ao (A8 Tryz.f70)).getD 1 .skip
def C2 (v4 : Int) (b0_0 : List ByteArray) (b0_1 : List Wr) : Nat := ((b0_1.length : Int) - v4).toNat + 1
noncomputable def Fl {R : Type}  (NX : ((Int) × (List ByteArray) × (List Wr) × Unit) → Option R) (X4 : (Unit) → Option R) (X1 : ((Bool) × Unit) → Option R) (v4 : Int) (b0_0 : List ByteArray) (b0_1 : List Wr) : Option R :=
 bif decide (v4 < nI b0_1.length) then bif decide (0 ≤ v4) then bif decide (v4 < nI b0_1.length) then bif decide (0 ≤ v4) then bif decide (v4 < nI b0_1.length) then bif !Kf (b0_0, b0_1, ()) (b0_1.getD v4.toNat (0, ByteArray.mk #[], ())).1 (b0_1.getD v4.toNat (0, ByteArray.mk #[], ())).2.1 then X1 (false, ()) else NX (IntKind.i64.wrap (v4 + 1), b0_0, b0_1, ()) else none else none else none else none else X4 PUnit.unit
noncomputable def Bl : Nat → (Int) → (List ByteArray) → (List Wr) →  Option ((Unit) ⊕ ((Bool) × Unit))
 | 0, _, _, _ => none
 | m + 1, v4, b0_0, b0_1 => Fl  (fun d => Bl m d.1 d.2.1 d.2.2.1) (fun d => some (.inl (d))) (fun d => some (.inr (d))) v4 b0_0 b0_1
def Dj (v3 : Int) (b0_0 : List ByteArray) (b0_1 : List Wr) : Nat := ((b0_0.length : Int) - v3).toNat + 1
noncomputable def Ga {R : Type}  (NX : ((Int) × (List ByteArray) × (List Wr) × Unit) → Option R) (X2 : Dk → Option R) (X1 : ((Bool) × Unit) → Option R) (v3 : Int) (b0_0 : List ByteArray) (b0_1 : List Wr) : Option R :=
 bif decide (v3 < nI b0_0.length) then bif decide (0 ≤ v3) then bif decide (v3 < nI b0_0.length) then bif nI (ByteArray.size (b0_0.getD v3.toNat (ByteArray.mk #[]))) != 64 then X1 (false, ()) else NX (IntKind.i64.wrap (v3 + 1), b0_0, b0_1, ()) else none else none else X2 (b0_0, b0_1, ())
noncomputable def Br : Nat → (Int) → (List ByteArray) → (List Wr) →  Option (Dk ⊕ ((Bool) × Unit))
 | 0, _, _, _ => none
 | m + 1, v3, b0_0, b0_1 => Ga  (fun d => Br m d.1 d.2.1 d.2.2.1) (fun d => some (.inl (d))) (fun d => some (.inr (d))) v3 b0_0 b0_1
noncomputable def Mu (a0 : Dk) : Option ((((Bool) × Unit) × (Unit))) :=
 bif decide (nI (List.length a0.1) < 8) then some ((false, ()), ()) else bif decide (nI (List.length a0.1) > 200) then some ((false, ()), ()) else bif decide (nI (List.length a0.2.1) > 300) then some ((false, ()), ()) else ((fun d => Br (Dj d.1 d.2.1 d.2.2.1) d.1 d.2.1 d.2.2.1) (0, a0)).bind fun val => Cs (fun val => ((fun d => Bl (C2 d.1 d.2.1 d.2.2.1) d.1 d.2.1 d.2.2.1) (0, val)).bind fun val => Cs (fun val => some ((true, ()), ())) (fun val => some (val, ())) val) (fun val => some (val, ())) val
theorem Aby (a0 : Dk) : Mu a0 = some ((Gl a0, ()), ()) := by
 unfold Mu Gl B8
 have c1 : decide (nI a0.2.1.length > 300) = !decide (a0.2.1.length ≤ 300) := Aav _ 300
 have c2 : decide (nI a0.1.length > 200) = !decide ((a0.1.length : Int) ≤ 200) := by
  rw [show decide (nI a0.1.length > 200) = !decide (a0.1.length ≤ 200) from Aav _ 200]
  congr 1
  exact decide_eq_decide.2 (by omega)
 have c3 : decide (nI a0.1.length < 8) = !decide (8 ≤ (a0.1.length : Int)) := by
  by_cases q : 8 ≤ (a0.1.length : Int)
  ·rw [decide_eq_true q, decide_eq_false (by simp [nI]; omega)]; rfl
  ·rw [decide_eq_false q, decide_eq_true (by simp [nI]; omega)]; rfl
 rw [c1, c2, c3]
 unfold E9
 by_cases h8 : 8 ≤ (a0.1.length : Int)
 ·rw [decide_eq_true h8]
  by_cases h2 : (a0.1.length : Int) ≤ 200
  ·rw [decide_eq_true h2]
   by_cases hp : a0.2.1.length ≤ 300
   ·rw [decide_eq_true hp]
    have hL := Ma (n := a0.1.length) (fun i => decide ((a0.1.getD i z0).size = 64)) (g := fun m i => Br m i a0.1 a0.2.1) (ok := .inl (a0.1, a0.2.1, ())) (bad := .inr (false, ())) (fun m i hi => by
     show Br (m + 1) i a0.1 a0.2.1 = _
     simp only [Br, Ga]
     have g1 : (nI (ByteArray.size (List.getD a0.1 i (ByteArray.mk #[]))) != 64) = !decide ((a0.1.getD i z0).size = 64) := A02 _ 64
     rw [Ou hi, F2, wI (show i < 4611686018427387904 by omega), Int.toNat_natCast, g1]
     cases decide ((a0.1.getD i z0).size = 64) <;> rfl) (fun m => by
     show Br (m + 1) (a0.1.length : Int) a0.1 a0.2.1 = _
     simp only [Br, Ga]
     rw [I0]
     rfl) (Dj 0 a0.1 a0.2.1) 0 (by omega) (by simp [Dj])
    have hL' : Br (Dj 0 a0.1 a0.2.1) 0 a0.1 a0.2.1 = _ := hL
    have hM := Ma (n := a0.2.1.length) (fun i => Agr a0.1.length (a0.2.1.getD i zW)) (g := fun m i => Bl m i a0.1 a0.2.1) (ok := .inl ()) (bad := .inr (false, ())) (fun m i hi => by
     show Bl (m + 1) i a0.1 a0.2.1 = _
     simp only [Bl, Fl]
     rw [Ou hi, F2, wI (show i < 4611686018427387904 by omega), Int.toNat_natCast]
     show (bif !Agr a0.1.length (a0.2.1.getD i zW) then _ else _) = _
     cases Agr a0.1.length (a0.2.1.getD i zW) <;> rfl) (fun m => by
     show Bl (m + 1) (a0.2.1.length : Int) a0.1 a0.2.1 = _
     simp only [Bl, Fl]
     rw [I0]
     rfl) (C2 0 a0.1 a0.2.1) 0 (by omega) (by simp [C2])
    have hM' : Bl (C2 0 a0.1 a0.2.1) 0 a0.1 a0.2.1 = _ := hM
    show (Br (Dj 0 a0.1 a0.2.1) 0 a0.1 a0.2.1).bind _ = _
    rw [hL']
    rw [Nat.sub_zero] at hM' ⊢
    cases (List.range' 0 a0.1.length).all (fun i => decide ((a0.1.getD i z0).size = 64)) with
    | false => rfl
    | true =>
     show (Bl (C2 0 a0.1 a0.2.1) 0 a0.1 a0.2.1).bind _ = _
     rw [hM']
     cases (List.range' 0 a0.2.1.length).all (fun i => Agr a0.1.length (a0.2.1.getD i zW)) <;> rfl
   ·rw [decide_eq_false hp]
    rfl
  ·rw [decide_eq_false h2]
   rfl
 ·rw [decide_eq_false h8]
  rfl
noncomputable def Pm {R : Type} (k : Kt R) := (Cs (Iz (pa_spec_ValidDisk 5) (.exit 0) 2 k) (Iz (pa_spec_ValidDisk 5) .ret 1 k))
noncomputable def Ox {R : Type} (k : Kt R) := (Cs (Iz (pa_spec_ValidDisk 10) (.exit 2) 4 k) (Iz (pa_spec_ValidDisk 10) .ret 1 k))
noncomputable def Ny {R : Type} : Lt R pa_spec_ValidDisk := (Ef (pat := pa_spec_ValidDisk) 5 (fun d k => (Br (Dj d.1 d.2.1 d.2.2.1) d.1 d.2.1 d.2.2.1).bind (Pm k)) (Ef (pat := pa_spec_ValidDisk) 10 (fun d k => (Bl (C2 d.1 d.2.1 d.2.2.1) d.1 d.2.1 d.2.2.1).bind (Ox k)) Fu))
theorem Mv : As Tryz.prog ta_spec_ValidDisk := Au ⟨Abw, trivial⟩
theorem Yh {R : Type} : Ay Tryz.prog R 57 0 pa_spec_ValidDisk Ny co_spec_ValidDisk_10 :=
 B6 (cfg := ⟨ta_spec_ValidDisk, 0, 57, pa_spec_ValidDisk⟩) 10 [] (fun NX X d => Fl  NX (fun e => X (.inl (e))) (fun e => X (.inr (e))) d.1 d.2.1 d.2.2.1) (fun m d => Bl m d.1 d.2.1 d.2.2.1) (fun d => C2 d.1 d.2.1 d.2.2.1) Ox Mv trivial (fun f NX d => by unfold Fl; simp only [Am, Ap, Ah, Option.bind_assoc, Option.bind_none, Option.bind_some]) (fun _ _ _ => by kernel_rfl)
theorem Zu {R : Type} : Ay Tryz.prog R 57 0 pa_spec_ValidDisk Ny co_spec_ValidDisk_5 :=
 B6 (cfg := ⟨ta_spec_ValidDisk, 0, 57, pa_spec_ValidDisk⟩) 5 [] (fun NX X d => Ga  NX (fun e => X (.inl (e))) (fun e => X (.inr (e))) d.1 d.2.1 d.2.2.1) (fun m d => Br m d.1 d.2.1 d.2.2.1) (fun d => Dj d.1 d.2.1 d.2.2.1) Pm Mv trivial (fun f NX d => by unfold Ga; simp only [Am, Ap, Ah, Option.bind_assoc, Option.bind_none, Option.bind_some]) (fun _ _ _ => by kernel_rfl)
theorem Mw : Bo Tryz.prog 70 sd_spec_ValidDisk :=
 At (pat := pa_spec_ValidDisk) [co_spec_ValidDisk_5, co_spec_ValidDisk_10] Ny Mv ⟨Zu, Yh, trivial⟩ Tryz.func70 (de := fun x => Mu x.1) (fun x r h => (Aby x.1).trans h) fun _ => by kernel_rfl
def Sp (p : Pg) (w : Int) : Bool := Ig p w
def Aqc : Sig := ⟨[.rd yPg, .rd tI], [some 4, none], [.rd .bool], [none]⟩
noncomputable def sd_spec_l1Ok : SD := ⟨Aqc, fun x => some (((Sp x.1 x.2.1), ()), (()))⟩
noncomputable def V4 (a0 : Pg) (a1 : Int) : Option ((((Bool) × Unit) × (Unit))) :=
 Option.bind (bif decide (a1 ≥ 1) then some ((decide (a1 ≤ 8), ()), ()) else some ((false, ()), ())) fun val => bif !val.1.1 then some ((false, ()), ()) else bif decide (a0.1 < 1) then some ((false, ()), ()) else bif decide (a0.1 > 4) then some ((false, ()), ()) else bif decide (a0.2.1 < 1) then some ((false, ()), ()) else bif decide (a0.2.1 > 60000) then some ((false, ()), ()) else bif decide (a0.2.2.1 < 1) then some ((false, ()), ()) else bif decide (a0.2.2.1 > 1000000000) then some ((false, ()), ()) else bif decide (nI (ByteArray.size a0.2.2.2.1) ≤ IntKind.i64.wrap (IntKind.i64.wrap (64 - a1) - 8)) then bif a0.1 != 3 then some ((true, ()), ()) else some ((ByteArray.toList a0.2.2.2.1 == (ByteArray.mk #[]).toList, ()), ()) else some ((false, ()), ())
theorem Aqd (a0 : Pg) (a1 : Int) : V4 a0 a1 = some (((Sp a0 a1), ()), (())) := by
 unfold V4 Sp Ig
 have tl : ByteArray.toList (ByteArray.mk #[]) = [] := by decide +kernel
 rw [tl]
 refine Tk (wid a1) ?_
 show (bif !E9 a1 1 8 then _ else _) = _
 cases hw : E9 a1 1 8 with
 | false => rfl
 | true =>
  have k1 := of_decide_eq_true (Cj hw).1
  have k2 := of_decide_eq_true (Cj hw).2
  rw [Ad (n := 64 - a1) (by omega) (by omega), Ad (by omega) (by omega), show 64 - a1 - 8 = 56 - a1 by omega]
  have e : ∀ (x lo hi : Int) {ρ : Type} (f t : ρ), (bif decide (x < lo) then f else bif decide (x > hi) then f else t) = bif E9 x lo hi then t else f := by
   intro x lo hi ρ f t
   unfold E9
   by_cases h1 : x < lo
   ·rw [decide_eq_true h1, decide_eq_false (show ¬ lo ≤ x by omega)]; rfl
   ·rw [decide_eq_false h1, decide_eq_true (show lo ≤ x by omega)]
    by_cases h2 : x > hi
    ·rw [decide_eq_true h2, decide_eq_false (show ¬ x ≤ hi by omega)]; rfl
    ·rw [decide_eq_false h2, decide_eq_true (show x ≤ hi by omega)]; rfl
  rw [e a0.1, e a0.2.1, e a0.2.2.1]
  cases E9 a0.1 1 4 <;> cases E9 a0.2.1 1 60000 <;> cases E9 a0.2.2.1 1 1000000000 <;> try rfl
  show (bif decide ((ByteArray.size a0.2.2.2.1 : Int) ≤ 56 - a1) then _ else _) = _
  cases decide ((ByteArray.size a0.2.2.2.1 : Int) ≤ 56 - a1) <;> cases (a0.1 != 3) <;> rfl
theorem Aqe : Bo Tryz.prog 161 sd_spec_l1Ok :=
 At (pat := Cr) [] Fu (Au (l := [(69, sd_spec_l1Width), (74, sd_spec_l1Part)]) ⟨Ev, Q4, trivial⟩) trivial Tryz.func161 (de := fun x => V4 x.1 x.2.1) (fun x r h => (Aqd x.1 x.2.1).trans h) fun _ => by kernel_rfl
theorem Uj : ∃ f : Int → Int → Option ByteArray, f = fun v n => if 0 ≤ v ∧ v < 9223372036854775808 ∧ 0 ≤ n ∧ n ≤ 1000 then some (Cv v n.toNat) else none := ⟨_, rfl⟩
noncomputable def Bg (v n : Int) : Option ByteArray := Classical.choose Uj v n
theorem E5 (v n : Int) : Bg v n = if 0 ≤ v ∧ v < 9223372036854775808 ∧ 0 ≤ n ∧ n ≤ 1000 then some (Cv v n.toNat) else none := by
 unfold Bg
 rw [Classical.choose_spec Uj]
def Gw (v0 v1 : Int) (v5 : ByteArray) (v6 : Int) : Nat := (v1 - v6).toNat + 1
def Aea : Sig := ⟨[.rd tI, .rd tI], [none, none], [.rd .str], [none]⟩
noncomputable def sd_spec_l1Number : SD := ⟨Aea, fun x => (Bg x.1 x.2.1).bind fun r => some ((r, ()), (()))⟩
noncomputable def ta_spec_l1Number : Tb := tb []
def pa_spec_l1Number : Nat → Pat × (Nat → Pat) := Fe [(4, ⟨[], [(0, .lf (.d tI)), (1, .lf (.d tI)), (5, .lf (.d .str)), (6, .lf (.d tI))], []⟩, [(2, ⟨[], [(5, .lf (.d .str))], []⟩)])]
noncomputable def co_spec_l1Number_4 : Code := (Ao (A8 Tryz.f162)).getD 0 .skip
noncomputable def Gy {R : Type}  (NX : ((Int) × (Int) × (ByteArray) × (Int) × Unit) → Option R) (X2 : ((ByteArray) × Unit) → Option R) (v0 : Int) (v1 : Int) (v5 : ByteArray) (v6 : Int) : Option R :=
 bif decide (v6 < v1) then bif decide ((strOfNums [IntKind.u8.wrap (v0.tmod 256)]).size + v5.size ≤ 9223372036854775807) then NX (IntKind.i64.wrap (v0.tdiv 256), v1, strOfNums [IntKind.u8.wrap (v0.tmod 256)] ++ v5, IntKind.i64.wrap (v6 + 1), ()) else none else X2 (v5, ())
noncomputable def Dx : Nat → (Int) → (Int) → (ByteArray) → (Int) →  Option ((ByteArray) × Unit)
 | 0, _, _, _, _ => none
 | m + 1, v0, v1, v5, v6 => Gy  (fun d => Dx m d.1 d.2.1 d.2.2.1 d.2.2.2.1) (fun d => some (d)) v0 v1 v5 v6
noncomputable def Nz (a0 : Int) (a1 : Int) : Option ((((ByteArray) × Unit) × (Unit))) :=
 ((fun d => Dx (Gw d.1 d.2.1 d.2.2.1 d.2.2.2.1) d.1 d.2.1 d.2.2.1 d.2.2.2.1) (a0, a1, ByteArray.mk #[], 0, ())).bind fun val => some (val, ())
theorem e9 : ∀ (k m i : Nat) (v : Int) (out : ByteArray), i + k ≤ 1000 → k < m → out.size = i → 0 ≤ v → v < 9223372036854775808 → Dx m v ((i + k : Nat) : Int) out i = some (Cv v k ++ out, ())
 | 0, m + 1, i, v, out, hi, hm, ho, h0, h1 => by
  simp only [Dx, Gy]
  rw [decide_eq_false (by omega), Asl]
  rfl
 | k + 1, m + 1, i, v, out, hi, hm, ho, h0, h1 => by
  simp only [Dx, Gy]
  have e1 : IntKind.wrap IntKind.u8 (Int.tmod v 256) = v % 256 := by
   rw [Int.tmod_eq_emod_of_nonneg h0]
   show v % 256 % 256 = v % 256
   omega
  have e2 : IntKind.i64.wrap (Int.tdiv v 256) = v / 256 := by
   rw [Int.tdiv_eq_ediv_of_nonneg h0]
   exact Ad (by omega) (by omega)
  rw [decide_eq_true (show (i : Int) < ((i + (k + 1) : Nat) : Int) by omega), e1, e2, decide_eq_true (show ByteArray.size (strOfNums [v % 256]) + ByteArray.size out ≤ 9223372036854775807 by rw [ho, Eh]; simp; omega), wI (show i < 4611686018427387904 by omega)]
  have hL := e9 k m (i + 1) (v / 256) (strOfNums [v % 256] ++ out) (by omega) (by omega) (by rw [ByteArray.size_append, ho, Eh]; simp; omega) (by omega) (by omega)
  rw [show i + 1 + k = i + (k + 1) by omega] at hL
  refine hL.trans ?_
  rw [← ByteArray.append_assoc, ← Asm]
theorem Aeb (a0 : Int) (a1 : Int) r (h : Bg a0 a1 = some r) : Nz a0 a1 = some ((r, ()), (())) := by
 rw [E5] at h
 split at h
 ·rename_i hc
  cases h
  obtain ⟨n, rfl⟩ : ∃ n : Nat, a1 = (n : Int) := ⟨a1.toNat, by omega⟩
  unfold Nz
  have hL := e9 n (Gw a0 n (ByteArray.mk #[]) 0) 0 a0 (ByteArray.mk #[]) (by omega) (by simp only [Gw]; omega) rfl hc.1 hc.2.1
  rw [Nat.zero_add] at hL
  rw [Azp] at hL
  exact Tk hL rfl
 ·cases h
noncomputable def Q5 {R : Type} (k : Kt R) := (Iz (pa_spec_l1Number 4) (.exit 0) 2 k)
noncomputable def Wu {R : Type} : Lt R pa_spec_l1Number := (Ef (pat := pa_spec_l1Number) 4 (fun d k => (Dx (Gw d.1 d.2.1 d.2.2.1 d.2.2.2.1) d.1 d.2.1 d.2.2.1 d.2.2.2.1).bind (Q5 k)) Fu)
theorem Uk : As Tryz.prog ta_spec_l1Number := Au trivial
theorem p7 {R : Type} : Ay Tryz.prog R 22 0 pa_spec_l1Number Wu co_spec_l1Number_4 :=
 B6 (cfg := ⟨ta_spec_l1Number, 0, 22, pa_spec_l1Number⟩) 4 [] (fun NX X d => Gy  NX X d.1 d.2.1 d.2.2.1 d.2.2.2.1) (fun m d => Dx m d.1 d.2.1 d.2.2.1 d.2.2.2.1) (fun d => Gw d.1 d.2.1 d.2.2.1 d.2.2.2.1) Q5 Uk trivial (fun f NX d => by unfold Gy; simp only [Am, Ap, Ah, Option.bind_assoc, Option.bind_none, Option.bind_some]) (fun _ _ _ => by kernel_rfl)
theorem Ul : Bo Tryz.prog 162 sd_spec_l1Number :=
 At (pat := pa_spec_l1Number) [co_spec_l1Number_4] Wu Uk ⟨p7, trivial⟩ Tryz.func162 (de := fun x => Nz x.1 x.2.1) (fun x r h => Az (Aeb x.1 x.2.1) h) fun _ => by kernel_rfl
def Q6 (s : ByteArray) (w : Int) : Option ByteArray := if s.size < 4611686018427387904 then some (Aap s w) else none
def Ku (v0 : ByteArray) (v1 v5 v6 : Int) : Nat := (nI v0.size - v6).toNat + 1
def J1 (v1 v5 : Int) (v7 : ByteArray) (v8 : Int) : Nat := (v1 - v8).toNat + 1
def As9 : Sig := ⟨[.rd .str, .rd tI], [none, none], [.rd .str], [none]⟩
noncomputable def sd_spec_Sum : SD := ⟨As9, fun x => (Q6 x.1 x.2.1).bind fun r => some ((r, ()), (()))⟩
noncomputable def ta_spec_Sum : Tb := tb [(69, sd_spec_l1Width)]
def pa_spec_Sum : Nat → Pat × (Nat → Pat) := Fe [(6, ⟨[], [(0, .lf (.d .str)), (1, .lf (.d tI)), (5, .lf (.d (.int .u64))), (6, .lf (.d tI))], []⟩, [(2, ⟨[], [(1, .lf (.d tI)), (5, .lf (.d (.int .u64)))], []⟩)]), (11, ⟨[], [(1, .lf (.d tI)), (5, .lf (.d (.int .u64))), (7, .lf (.d .str)), (8, .lf (.d tI))], []⟩, [(4, ⟨[], [(7, .lf (.d .str))], []⟩)])]
noncomputable def co_spec_Sum_6 : Code := (Ao (A8 Tryz.f163)).getD 0 .skip
noncomputable def co_spec_Sum_11 : Code := (Ao (A8 Tryz.f163)).getD 1 .skip
noncomputable def J2 {R : Type}  (NX : ((Int) × (Int) × (ByteArray) × (Int) × Unit) → Option R) (X4 : ((ByteArray) × Unit) → Option R) (v1 : Int) (v5 : Int) (v7 : ByteArray) (v8 : Int) : Option R :=
 bif decide (v8 < v1) then bif decide ((strOfNums [IntKind.u8.wrap (v5.tmod 256)]).size + v7.size ≤ 9223372036854775807) then NX (v1, IntKind.u64.wrap (v5.tdiv 256), strOfNums [IntKind.u8.wrap (v5.tmod 256)] ++ v7, IntKind.i64.wrap (v8 + 1), ()) else none else X4 (v7, ())
noncomputable def Gz : Nat → (Int) → (Int) → (ByteArray) → (Int) →  Option ((ByteArray) × Unit)
 | 0, _, _, _, _ => none
 | m + 1, v1, v5, v7, v8 => J2  (fun d => Gz m d.1 d.2.1 d.2.2.1 d.2.2.2.1) (fun d => some (d)) v1 v5 v7 v8
noncomputable def Kv {R : Type}  (NX : ((ByteArray) × (Int) × (Int) × (Int) × Unit) → Option R) (X2 : ((Int) × (Int) × Unit) → Option R) (v0 : ByteArray) (v1 : Int) (v5 : Int) (v6 : Int) : Option R :=
 bif decide (v6 < nI v0.size) then bif decide (0 ≤ v6) then bif decide (v6 < nI v0.size) then NX (v0, v1, IntKind.u64.wrap (IntKind.u64.wrap (nI (BitVec.ofInt 64 v5 ^^^ BitVec.ofInt 64 (IntKind.u64.wrap (Af v0 v6))).toNat) * 1099511628211), IntKind.i64.wrap (v6 + 1), ()) else none else none else X2 (v1, v5, ())
noncomputable def Fa : Nat → (ByteArray) → (Int) → (Int) → (Int) →  Option ((Int) × (Int) × Unit)
 | 0, _, _, _, _ => none
 | m + 1, v0, v1, v5, v6 => Kv  (fun d => Fa m d.1 d.2.1 d.2.2.1 d.2.2.2.1) (fun d => some (d)) v0 v1 v5 v6
noncomputable def Yi (a0 : ByteArray) (a1 : Int) : Option ((((ByteArray) × Unit) × (Unit))) :=
 Option.bind (bif decide (a1 ≥ 1) then some ((decide (a1 ≤ 8), ()), ()) else some ((false, ()), ())) fun val => bif !val.1.1 then some ((ByteArray.mk #[], ()), ()) else ((fun d => Fa (Ku d.1 d.2.1 d.2.2.1 d.2.2.2.1) d.1 d.2.1 d.2.2.1 d.2.2.2.1) (a0, a1, 14695981039346656037, 0, ())).bind fun val => ((fun d => Gz (J1 d.1 d.2.1 d.2.2.1 d.2.2.2.1) d.1 d.2.1 d.2.2.1 d.2.2.2.1) (val.1, val.2.1, ByteArray.mk #[], 0, ())).bind fun val => some (val, ())
theorem Ak2 : ∀ (k m i : Nat) (v : Int) (out : ByteArray), i + k ≤ 1000 → k < m → out.size = i → U64 v → Gz m ((i + k : Nat) : Int) v out i = some (Cv v k ++ out, ())
 | 0, m + 1, i, v, out, hi, hm, ho, hv => by
  simp only [Gz, J2]
  rw [decide_eq_false (by omega), Asl]
  rfl
 | k + 1, m + 1, i, v, out, hi, hm, ho, hv => by
  have h0 := hv.1
  have h1 := hv.2
  simp only [Gz, J2]
  have e1 : IntKind.wrap IntKind.u8 (Int.tmod v 256) = v % 256 := by
   rw [Int.tmod_eq_emod_of_nonneg h0]
   show v % 256 % 256 = v % 256
   omega
  have e2 : IntKind.wrap IntKind.u64 (Int.tdiv v 256) = v / 256 := by
   rw [Int.tdiv_eq_ediv_of_nonneg h0, A1v]
   omega
  rw [decide_eq_true (show (i : Int) < ((i + (k + 1) : Nat) : Int) by omega), e1, e2, decide_eq_true (show ByteArray.size (strOfNums [v % 256]) + ByteArray.size out ≤ 9223372036854775807 by rw [ho, Eh]; simp; omega), wI (show i < 4611686018427387904 by omega)]
  have hL := Ak2 k m (i + 1) (v / 256) (strOfNums [v % 256] ++ out) (by omega) (by omega) (by rw [ByteArray.size_append, ho, Eh]; simp; omega) ⟨by omega, by omega⟩
  rw [show i + 1 + k = i + (k + 1) by omega] at hL
  refine hL.trans ?_
  rw [← ByteArray.append_assoc, ← Asm]
theorem Ata (a0 : ByteArray) (a1 : Int) r (h : Q6 a0 a1 = some r) : Yi a0 a1 = some ((r, ()), (())) := by
 unfold Q6 at h
 split at h
 rotate_left
 ·cases h
 rename_i hsz
 cases h
 unfold Yi Aap
 generalize hC : (14695981039346656037 : Int) = C
 have h0 : U64 C := by rw [← hC]; exact ⟨by decide, by decide⟩
 refine Tk (wid a1) ?_
 show (bif !E9 a1 1 8 then _ else _) = _
 cases hw : E9 a1 1 8 with
 | false => rfl
 | true =>
  have k1 := of_decide_eq_true (Cj hw).1
  have k2 := of_decide_eq_true (Cj hw).2
  ·simp only [Bool.not_true, cond_false, cond_true]
   have hL := Zl a0.size (fun _ _ => True) (fun i h => Xx h (Af a0 i)) (g := fun m i h => Fa m a0 a1 h i) (ok := fun h => (a1, h, ())) (fun m i h hi _ => by
    show Fa (m + 1) a0 a1 h i = _
    simp only [Fa, Kv]
    have c1 : (i : Int) < nI a0.size := by simp only [nI]; omega
    rw [decide_eq_true c1, F2, wI (show i < 4611686018427387904 by omega)]
    rfl) (fun m h _ => by
    show Fa (m + 1) a0 a1 h a0.size = _
    simp only [Fa, Kv]
    rw [decide_eq_false (show ¬ ((a0.size : Int) < nI a0.size) by simp only [nI]; omega)]
    rfl) (fun _ _ _ _ => trivial) a0.size (Ku a0 a1 C 0) 0 C (by omega) (by simp only [Ku, nI]; omega) trivial
   rw [show ((0 : Nat) : Int) = 0 from rfl] at hL
   refine Tk hL ?_
   obtain ⟨n, rfl⟩ : ∃ n : Nat, a1 = (n : Int) := ⟨a1.toNat, by omega⟩
   have hM := Ak2 n (J1 n (Adm a0 a0.size 0 C) (ByteArray.mk #[]) 0) 0 (Adm a0 a0.size 0 C) (ByteArray.mk #[]) (by omega) (by simp only [J1]; omega) rfl (Awi a0 _ _ h0)
   rw [Nat.zero_add, Azp] at hM
   exact Tk hM rfl
noncomputable def f4 {R : Type} (k : Kt R) := (Iz (pa_spec_Sum 6) (.exit 0) 2 k)
noncomputable def Yj {R : Type} (k : Kt R) := (Iz (pa_spec_Sum 11) (.exit 2) 4 k)
noncomputable def p8 {R : Type} : Lt R pa_spec_Sum := (Ef (pat := pa_spec_Sum) 6 (fun d k => (Fa (Ku d.1 d.2.1 d.2.2.1 d.2.2.2.1) d.1 d.2.1 d.2.2.1 d.2.2.2.1).bind (f4 k)) (Ef (pat := pa_spec_Sum) 11 (fun d k => (Gz (J1 d.1 d.2.1 d.2.2.1 d.2.2.2.1) d.1 d.2.1 d.2.2.1 d.2.2.2.1).bind (Yj k)) Fu))
theorem Yk : As Tryz.prog ta_spec_Sum := Au ⟨Ev, trivial⟩
theorem Ak3 {R : Type} : Ay Tryz.prog R 40 0 pa_spec_Sum p8 co_spec_Sum_11 :=
 B6 (cfg := ⟨ta_spec_Sum, 0, 40, pa_spec_Sum⟩) 11 [] (fun NX X d => J2  NX X d.1 d.2.1 d.2.2.1 d.2.2.2.1) (fun m d => Gz m d.1 d.2.1 d.2.2.1 d.2.2.2.1) (fun d => J1 d.1 d.2.1 d.2.2.1 d.2.2.2.1) Yj Yk trivial (fun f NX d => by unfold J2; simp only [Am, Ap, Ah, Option.bind_assoc, Option.bind_none, Option.bind_some]) (fun _ _ _ => by kernel_rfl)
theorem Ams {R : Type} : Ay Tryz.prog R 40 0 pa_spec_Sum p8 co_spec_Sum_6 :=
 B6 (cfg := ⟨ta_spec_Sum, 0, 40, pa_spec_Sum⟩) 6 [] (fun NX X d => Kv  NX X d.1 d.2.1 d.2.2.1 d.2.2.2.1) (fun m d => Fa m d.1 d.2.1 d.2.2.1 d.2.2.2.1) (fun d => Ku d.1 d.2.1 d.2.2.1 d.2.2.2.1) f4 Yk trivial (fun f NX d => by unfold Kv; simp only [Am, Ap, Ah, Option.bind_assoc, Option.bind_none, Option.bind_some]) (fun _ _ _ => by kernel_rfl)
theorem Atb : Bo Tryz.prog 163 sd_spec_Sum :=
 At (pat := pa_spec_Sum) [co_spec_Sum_6, co_spec_Sum_11] p8 Yk ⟨Ams, Ak3, trivial⟩ Tryz.func163 (de := fun x => Yi x.1 x.2.1) (fun x r h => Az (Ata x.1 x.2.1) h) fun _ => by kernel_rfl
def Cb (p : Pg) (w : Int) : ByteArray := Db p w
def G0 (v1 : Int) (v5 : ByteArray) : Nat := (64 - v1 - nI v5.size).toNat + 1
def Aec : Sig := ⟨[.rd yPg, .rd tI], [some 4, none], [.rd .str], [none]⟩
noncomputable def sd_spec_FormPage : SD := ⟨Aec, fun x => some (((Cb x.1 x.2.1), ()), (()))⟩
noncomputable def ta_spec_FormPage : Tb := tb [(161, sd_spec_l1Ok), (162, sd_spec_l1Number), (163, sd_spec_Sum)]
def pa_spec_FormPage : Nat → Pat × (Nat → Pat) := Fe [(5, ⟨[], [(1, .lf (.d tI)), (5, .lf (.d .str))], []⟩, [(2, ⟨[], [(1, .lf (.d tI)), (5, .lf (.d .str))], []⟩)])]
noncomputable def co_spec_FormPage_5 : Code := (Ao (A8 Tryz.f76)).getD 0 .skip
noncomputable def G1 {R : Type}  (NX : ((Int) × (ByteArray) × Unit) → Option R) (X2 : ((Int) × (ByteArray) × Unit) → Option R) (v1 : Int) (v5 : ByteArray) : Option R :=
 bif decide (IntKind.i64.wrap (nI v5.size + v1) < 64) then bif decide (v5.size + (ByteArray.mk #[0]).size ≤ 9223372036854775807) then NX (v1, v5 ++ ByteArray.mk #[0], ()) else none else X2 (v1, v5, ())
noncomputable def Dy : Nat → (Int) → (ByteArray) →  Option ((Int) × (ByteArray) × Unit)
 | 0, _, _ => none
 | m + 1, v1, v5 => G1  (fun d => Dy m d.1 d.2.1) (fun d => some (d)) v1 v5
noncomputable def N0 (a0 : Pg) (a1 : Int) : Option ((((ByteArray) × Unit) × (Unit))) :=
 bif !Sp a0 a1 then some ((ByteArray.mk #[], ()), ()) else ((Bg a0.1 1).bind fun val => some ((val, ()), ())).bind fun val => ((Bg a0.2.1 2).bind fun val => some ((val, ()), ())).bind fun val_1 => bif decide (ByteArray.size val.1.1 + ByteArray.size val_1.1.1 ≤ 9223372036854775807) then ((Bg a0.2.2.1 4).bind fun val => some ((val, ()), ())).bind fun val_2 => bif decide ((val.1.1 ++ val_1.1.1).size + ByteArray.size val_2.1.1 ≤ 9223372036854775807) then ((Bg (nI (ByteArray.size a0.2.2.2.1)) 1).bind fun val => some ((val, ()), ())).bind fun val_3 => bif decide ((val.1.1 ++ val_1.1.1 ++ val_2.1.1).size + ByteArray.size val_3.1.1 ≤ 9223372036854775807) then bif decide ((val.1.1 ++ val_1.1.1 ++ val_2.1.1 ++ val_3.1.1).size + ByteArray.size a0.2.2.2.1 ≤ 9223372036854775807) then ((fun d => Dy (G0 d.1 d.2.1) d.1 d.2.1) (a1, val.1.1 ++ val_1.1.1 ++ val_2.1.1 ++ val_3.1.1 ++ a0.2.2.2.1, ())).bind fun val => ((Q6 val.2.1 val.1).bind fun val => some ((val, ()), ())).bind fun val_4 => bif decide (ByteArray.size val_4.1.1 + ByteArray.size val.2.1 ≤ 9223372036854775807) then some ((val_4.1.1 ++ val.2.1, ()), ()) else none else none else none else none else none
theorem Atc (w : Int) : ∀ (k m : Nat) (b : ByteArray), (b.size : Int) + w + k = 64 → 0 ≤ w → k < m → Dy m w b = some (w, b ++ strOfNums (List.replicate k 0), ())
 | 0, m + 1, b, h, h0, hm => by
  simp only [Dy, G1]
  rw [Ad (by simp only [nI]; omega) (by simp only [nI]; omega), decide_eq_false (show ¬ (nI b.size + w < 64) by simp only [nI]; omega), show strOfNums (List.replicate 0 0) = ByteArray.mk #[] from rfl, Azp]
  rfl
 | k + 1, m + 1, b, h, h0, hm => by
  simp only [Dy, G1]
  have hz : (ByteArray.mk #[0]).size = 1 := rfl
  rw [Ad (by simp only [nI]; omega) (by simp only [nI]; omega), decide_eq_true (show nI b.size + w < 64 by simp only [nI]; omega), hz, decide_eq_true (show b.size + 1 ≤ 9223372036854775807 by omega)]
  have := Atc w k m (b ++ ByteArray.mk #[0]) (by rw [ByteArray.size_append, hz]; omega) h0 (by omega)
  refine this.trans ?_
  rw [ByteArray.append_assoc, show ByteArray.mk #[0] = strOfNums [0] from rfl, ← d7]
  rfl
theorem Aed (a0 : Pg) (a1 : Int) : N0 a0 a1 = some (((Cb a0 a1), ()), (())) := by
 unfold N0 Cb Db
 show (bif !Ig a0 a1 then _ else _) = _
 cases hp : Ig a0 a1 with
 | false => rfl
 | true =>
  obtain ⟨hw, k1, k2, kp⟩ := Ql hp
  obtain ⟨r1, r2, r3⟩ := X3 hp
  have n1 : Bg a0.1 1 = some (Cv a0.1 1) := (E5 _ _).trans (if_pos (by omega))
  have n2 : Bg a0.2.1 2 = some (Cv a0.2.1 2) := (E5 _ _).trans (if_pos (by omega))
  have n3 : Bg a0.2.2.1 4 = some (Cv a0.2.2.1 4) := (E5 _ _).trans (if_pos (by omega))
  have n4 : Bg (nI a0.2.2.2.1.size) 1 = some (Cv (nI a0.2.2.2.1.size) 1) := (E5 _ _).trans (if_pos (by simp only [nI]; omega))
  simp only [Bool.not_true, cond_false, cond_true, n1, n2, n3, n4, Option.bind_some]
  have hb : Fv a0 a1 = Cv a0.1 1 ++ Cv a0.2.1 2 ++ Cv a0.2.2.1 4 ++ Cv (nI a0.2.2.2.1.size) 1 ++ a0.2.2.2.1 ++ strOfNums (List.replicate (56 - a1 - a0.2.2.2.1.size).toNat 0) := rfl
  have hs4 : (Cv a0.1 1 ++ Cv a0.2.1 2 ++ Cv a0.2.2.1 4 ++ Cv (nI a0.2.2.2.1.size) 1).size = 8 := by simp only [ByteArray.size_append, Ii]
  have hs3 : (Cv a0.1 1 ++ Cv a0.2.1 2 ++ Cv a0.2.2.1 4).size = 7 := by simp only [ByteArray.size_append, Ii]
  have hs2 : (Cv a0.1 1 ++ Cv a0.2.1 2).size = 3 := by simp only [ByteArray.size_append, Ii]
  have hs5 : (Cv a0.1 1 ++ Cv a0.2.1 2 ++ Cv a0.2.2.1 4 ++ Cv (nI a0.2.2.2.1.size) 1 ++ a0.2.2.2.1).size = 8 + a0.2.2.2.1.size := by rw [ByteArray.size_append, hs4]
  rw [hs4, hs3, hs2, Ii, Ii, Ii, Ii, decide_eq_true (show 1 + 2 ≤ 9223372036854775807 by decide), decide_eq_true (show 3 + 4 ≤ 9223372036854775807 by decide), decide_eq_true (show 7 + 1 ≤ 9223372036854775807 by decide), decide_eq_true (show 8 + a0.2.2.2.1.size ≤ 9223372036854775807 by omega)]
  simp only [cond_true]
  generalize hB : Cv a0.1 1 ++ Cv a0.2.1 2 ++ Cv a0.2.2.1 4 ++ Cv (nI a0.2.2.2.1.size) 1 ++ a0.2.2.2.1 = B at *
  have hL := Atc a1 (56 - a1 - a0.2.2.2.1.size).toNat (G0 a1 B) B (by rw [hs5]; omega) (by omega) (by simp only [G0, nI, hs5]; omega)
  have hz : (strOfNums (List.replicate (56 - a1 - a0.2.2.2.1.size).toNat 0)).size = (56 - a1 - a0.2.2.2.1.size).toNat := by rw [Eh, List.length_replicate]
  rw [← hb] at hL
  have hbs : (Fv a0 a1).size ≤ 64 := by rw [hb, ByteArray.size_append, hs5, hz]; omega
  have hm : Q6 (Fv a0 a1) a1 = some (Aap (Fv a0 a1) a1) := if_pos (by omega)
  refine Tk hL (Tk (Tk hm rfl) ?_)
  show (bif decide (ByteArray.size (Aap (Fv a0 a1) a1) + ByteArray.size (Fv a0 a1) ≤ 9223372036854775807) then some ((Aap (Fv a0 a1) a1 ++ Fv a0 a1, ()), ()) else none) = _
  rw [T5 hw, decide_eq_true (by omega)]
  rfl
noncomputable def Q7 {R : Type} (k : Kt R) := (Iz (pa_spec_FormPage 5) (.exit 0) 2 k)
noncomputable def Wv {R : Type} : Lt R pa_spec_FormPage := (Ef (pat := pa_spec_FormPage) 5 (fun d k => (Dy (G0 d.1 d.2.1) d.1 d.2.1).bind (Q7 k)) Fu)
theorem Um : As Tryz.prog ta_spec_FormPage := Au ⟨Aqe, Ul, Atb, trivial⟩
theorem p9 {R : Type} : Ay Tryz.prog R 41 0 pa_spec_FormPage Wv co_spec_FormPage_5 :=
 B6 (cfg := ⟨ta_spec_FormPage, 0, 41, pa_spec_FormPage⟩) 5 [] (fun NX X d => G1  NX X d.1 d.2.1) (fun m d => Dy m d.1 d.2.1) (fun d => G0 d.1 d.2.1) Q7 Um trivial (fun f NX d => by unfold G1; simp only [Am, Ap, Ah, Option.bind_assoc, Option.bind_none, Option.bind_some]) (fun _ _ _ => by kernel_rfl)
theorem Im : Bo Tryz.prog 76 sd_spec_FormPage :=
 At (pat := pa_spec_FormPage) [co_spec_FormPage_5] Wv Um ⟨p9, trivial⟩ Tryz.func76 (de := fun x => N0 x.1 x.2.1) (fun x r h => (Aed x.1 x.2.1).trans h) fun _ => by kernel_rfl
def Abz (a : Int) (d : ByteArray) : Opn := (false, a, d, ())
def Amt : Sig := ⟨[.rd tI, .rd .str], [none, none], [.rd B7], [some 3]⟩
noncomputable def sd_spec_l6Put : SD := ⟨Amt, fun x => some (((Abz x.1 x.2.1), ()), (()))⟩
noncomputable def f7 (a0 : Int) (a1 : ByteArray) : Option (((Opn × Unit) × (Unit))) :=
 some (((false, a0, a1, ()), ()), ())
theorem Amu (a0 : Int) (a1 : ByteArray) : f7 a0 a1 = some (((Abz a0 a1), ()), (())) := rfl
theorem f8 : Bo Tryz.prog 83 sd_spec_l6Put :=
 At (pat := Cr) [] Fu (Au (l := []) trivial) trivial Tryz.func83 (de := fun x => f7 x.1 x.2.1) (fun x r h => (Amu x.1 x.2.1).trans h) fun _ => by kernel_rfl
def Bj (n h : Int) : Int := IntKind.i64.wrap (2 + IntKind.i64.wrap (h * A3 n))
def Ak4 : Sig := ⟨[.rd tI, .rd tI], [none, none], [.rd tI], [none]⟩
noncomputable def sd_spec_l6Base : SD := ⟨Ak4, fun x => some (((Bj x.1 x.2.1), ()), (()))⟩
noncomputable def Yl (a0 : Int) (a1 : Int) : Option ((((Int) × Unit) × (Unit))) :=
 some ((IntKind.i64.wrap (2 + IntKind.i64.wrap (a1 * A3 a0)), ()), ())
theorem Ak5 (a0 : Int) (a1 : Int) : Yl a0 a1 = some (((Bj a0 a1), ()), (())) := rfl
theorem Ym : Bo Tryz.prog 84 sd_spec_l6Base :=
 At (pat := Cr) [] Fu (Au (l := [(55, sd_spec_Halves)]) ⟨Qy, trivial⟩) trivial Tryz.func84 (de := fun x => Yl x.1 x.2.1) (fun x r h => (Ak5 x.1 x.2.1).trans h) fun _ => by kernel_rfl
def H1 (d : Dk) : Option Dk := if d.2.1.length ≤ 1099511627776 ∧ ∀ i, i < d.2.1.length → 0 ≤ (d.2.1.getD i zW).1 ∧ (d.2.1.getD i zW).1 < (d.1.length : Int) then some (Ase d) else none
def Ak6 : Sig := ⟨[.own 9 .str, .rd (.sl Eb)], [some 2], [.own 9 .str, .own 182 Eb], [some 2]⟩
noncomputable def sd_spec_l2Sync : SD := ⟨Ak6, fun x => (H1 (x.1, x.2.1, ())).bind fun r => some ((r.1, r.2.1, ()), (()))⟩
noncomputable def ta_spec_l2Sync : Tb := tb []
def pa_spec_l2Sync : Nat → Pat × (Nat → Pat) := Fe [(3, ⟨[.boxSl 1 1 Eb, .boxRow 2 0 9 .str, .boxRow 2 1 182 Eb], [(1, .lf (.ptr 1 0)), (2, .lf (.ptr 2 0)), (3, .lf (.d tI))], [.row 9 .str, .box 26 [.row 0, .d (.sl Eb)], .box 26 [.row 3, .row 4], .row 9 .str, .row 182 Eb]⟩, [(2, ⟨[.boxSl 1 1 Eb, .boxRow 2 0 9 .str, .boxRow 2 1 182 Eb], [(1, .lf (.ptr 1 0)), (2, .lf (.ptr 2 0))], [.row 9 .str, .box 26 [.row 0, .d (.sl Eb)], .box 26 [.row 3, .row 4], .row 9 .str, .row 182 Eb]⟩)])]
noncomputable def co_spec_l2Sync_3 : Code := (Ao (A8 Tryz.f179)).getD 0 .skip
def E6 (v3 : Int) (r0 : List ByteArray) (b1_1 : List Wr) (r3 : List ByteArray) (r4 : List Wr) : Nat := ((b1_1.length : Int) - v3).toNat + 1
noncomputable def In {R : Type}  (NX : ((Int) × (List ByteArray) × (List Wr) × (List ByteArray) × (List Wr) × Unit) → Option R) (X2 : ((List ByteArray) × (List Wr) × (List ByteArray) × (List Wr) × Unit) → Option R) (v3 : Int) (r0 : List ByteArray) (b1_1 : List Wr) (r3 : List ByteArray) (r4 : List Wr) : Option R :=
 bif decide (v3 < nI b1_1.length) then bif decide (0 ≤ v3) then bif decide (v3 < nI b1_1.length) then bif decide (0 ≤ v3) then bif decide (v3 < nI b1_1.length) then bif decide (0 ≤ (b1_1.getD v3.toNat (0, ByteArray.mk #[], ())).1) then bif decide ((b1_1.getD v3.toNat (0, ByteArray.mk #[], ())).1 < nI r0.length) then bif decide (Int.toNat (b1_1.getD v3.toNat (0, ByteArray.mk #[], ())).1 < r0.length) then NX (IntKind.i64.wrap (v3 + 1), r0.set (Int.toNat (b1_1.getD v3.toNat (0, ByteArray.mk #[], ())).1) (b1_1.getD v3.toNat (0, ByteArray.mk #[], ())).2.1, b1_1, r3, r4, ()) else none else none else none else none else none else none else none else X2 (r0, b1_1, r3, r4, ())
noncomputable def Cf : Nat → (Int) → (List ByteArray) → (List Wr) → (List ByteArray) → (List Wr) →  Option ((List ByteArray) × (List Wr) × (List ByteArray) × (List Wr) × Unit)
 | 0, _, _, _, _, _ => none
 | m + 1, v3, r0, b1_1, r3, r4 => In  (fun d => Cf m d.1 d.2.1 d.2.2.1 d.2.2.2.1 d.2.2.2.2.1) (fun d => some (d)) v3 r0 b1_1 r3 r4
noncomputable def Q8 (a0 : List ByteArray) (a1 : List Wr) : Option ((Dk × (Unit))) :=
 ((fun d => Cf (E6 d.1 d.2.1 d.2.2.1 d.2.2.2.1 d.2.2.2.2.1) d.1 d.2.1 d.2.2.1 d.2.2.2.1 d.2.2.2.2.1) (0, a0, a1, [], [], ())).bind fun val => some ((val.1, [], ()), ())
theorem Ak7 (a0 : List ByteArray) (a1 : List Wr) r (h : H1 (a0, a1, ()) = some r) : Q8 a0 a1 = some ((r.1, r.2.1, ()), (())) := by
 unfold H1 at h
 split at h
 ·rename_i hc
  obtain ⟨hp, hw⟩ := hc
  cases h
  have hL := Aod (xs := a1) zW (fun s : List ByteArray => s.length = a0.length) (fun _ w s => s.set w.1.toNat w.2.1) (g := fun m i s => Cf m i s a1 [] []) (ok := fun s => (s, a1, [], [], ())) (fun m i s hi hs => by
   show Cf (m + 1) i s a1 [] [] = _
   simp only [Cf, In]
   obtain ⟨h0, h1⟩ := hw i hi
   have c1 : decide (0 ≤ (List.getD a1 i (0, ByteArray.mk #[], ())).1) = true := decide_eq_true h0
   have c2 : decide ((List.getD a1 i (0, ByteArray.mk #[], ())).1 < nI s.length) = true := decide_eq_true (by rw [hs]; exact h1)
   have c3 : decide (Int.toNat (List.getD a1 i (0, ByteArray.mk #[], ())).1 < s.length) = true := decide_eq_true (by
    rw [hs]
    have : (a1.getD i zW).1.toNat < a0.length := by
     have h0 : 0 ≤ (a1.getD i zW).1 := h0
     have h1 : (a1.getD i zW).1 < (a0.length : Int) := h1
     omega
    exact this)
   rw [Ou hi, F2, wI (show i < 4611686018427387904 by have hp : a1.length ≤ 1099511627776 := hp; omega), Int.toNat_natCast, c1, c2, c3]
   rfl) (fun i s hi hs => by rw [List.length_set]; exact hs) (fun m s hs => by
   show Cf (m + 1) (a1.length : Int) s a1 [] [] = _
   simp only [Cf, In]
   rw [I0]
   rfl) (E6 0 a0 a1 [] []) 0 a0 (by omega) (by simp [E6]) rfl
  have hL' : Cf (E6 0 a0 a1 [] []) 0 a0 a1 [] [] = _ := hL
  unfold Q8
  show (Cf (E6 0 a0 a1 [] []) 0 a0 a1 [] []).bind _ = _
  rw [hL']
  rfl
 ·cases h
noncomputable def Un {R : Type} (k : Kt R) := (Iz (pa_spec_l2Sync 3) (.exit 0) 2 k)
noncomputable def f9 {R : Type} : Lt R pa_spec_l2Sync := (Ef (pat := pa_spec_l2Sync) 3 (fun d k => (Cf (E6 d.1 d.2.1 d.2.2.1 d.2.2.2.1 d.2.2.2.2.1) d.1 d.2.1 d.2.2.1 d.2.2.2.1 d.2.2.2.2.1).bind (Un k)) Fu)
theorem Yn : As Tryz.prog ta_spec_l2Sync := Au trivial
theorem Aee {R : Type} : Ay Tryz.prog R 29 1 pa_spec_l2Sync f9 co_spec_l2Sync_3 :=
 B6 (cfg := ⟨ta_spec_l2Sync, 1, 29, pa_spec_l2Sync⟩) 3 [] (fun NX X d => In  NX X d.1 d.2.1 d.2.2.1 d.2.2.2.1 d.2.2.2.2.1) (fun m d => Cf m d.1 d.2.1 d.2.2.1 d.2.2.2.1 d.2.2.2.2.1) (fun d => E6 d.1 d.2.1 d.2.2.1 d.2.2.2.1 d.2.2.2.2.1) Un Yn trivial (fun f NX d => by unfold In; simp only [Am, Ap, Ah, Option.bind_assoc, Option.bind_none, Option.bind_some]) (fun _ _ _ => by kernel_rfl)
theorem Yo : Bo Tryz.prog 179 sd_spec_l2Sync :=
 At (pat := pa_spec_l2Sync) [co_spec_l2Sync_3] f9 Yn ⟨Aee, trivial⟩ Tryz.func179 (de := fun x => Q8 x.1 x.2.1) (fun x r h => Az (Ak7 x.1 x.2.1) h) fun _ => by kernel_rfl
def H2 (d : Dk) : Option Dk := if d.1.length ≤ 1099511627776 ∧ d.2.1.length ≤ 1099511627776 then some d else none
def Ak8 : Sig := ⟨[.rd yDk], [some 2], [.own 9 .str, .own 182 Eb], [some 2]⟩
noncomputable def sd_spec_l2Copy : SD := ⟨Ak8, fun x => (H2 x.1).bind fun r => some ((r.1, r.2.1, ()), (()))⟩
noncomputable def Q9 (a0 : Dk) : Option ((Dk × (Unit))) :=
 bif decide ((0 + List.length a0.1) * 16 ≤ 140737488355328) then bif decide ((0 + List.length a0.2.1) * 24 ≤ 140737488355328) then some (([] ++ a0.1, [] ++ a0.2.1, ()), ()) else none else none
theorem Ak9 (a0 : Dk) r (h : H2 a0 = some r) : Q9 a0 = some ((r.1, r.2.1, ()), (())) := by
 unfold H2 at h
 split at h
 ·rename_i hc
  cases h
  unfold Q9
  have c1 : (0 + List.length a0.1) * 16 ≤ 140737488355328 := by omega
  have c2 : (0 + List.length a0.2.1) * 24 ≤ 140737488355328 := by omega
  rw [decide_eq_true c1, decide_eq_true c2]
  rfl
 ·cases h
theorem Yp : Bo Tryz.prog 180 sd_spec_l2Copy :=
 At (pat := Cr) [] Fu (Au (l := []) trivial) trivial Tryz.func180 (de := fun x => Q9 x.1) (fun x r h => Az (Ak9 x.1) h) fun _ => by kernel_rfl
def Fb (s : ByteArray) : Option Int := if s.size ≤ 7 then some (Xw s) else none
def Io (v0 : ByteArray) (v3 v4 : Int) : Nat := (nI v0.size - v4).toNat + 1
def Ala : Sig := ⟨[.rd .str], [none], [.rd tI], [none]⟩
noncomputable def sd_spec_l1Read : SD := ⟨Ala, fun x => (Fb x.1).bind fun r => some ((r, ()), (()))⟩
noncomputable def ta_spec_l1Read : Tb := tb []
def pa_spec_l1Read : Nat → Pat × (Nat → Pat) := Fe [(4, ⟨[], [(0, .lf (.d .str)), (3, .lf (.d tI)), (4, .lf (.d tI))], []⟩, [(2, ⟨[], [(3, .lf (.d tI))], []⟩)])]
noncomputable def co_spec_l1Read_4 : Code := (Ao (A8 Tryz.f75)).getD 0 .skip
noncomputable def Ip {R : Type}  (NX : ((ByteArray) × (Int) × (Int) × Unit) → Option R) (X2 : ((Int) × Unit) → Option R) (v0 : ByteArray) (v3 : Int) (v4 : Int) : Option R :=
 bif decide (v4 < nI v0.size) then bif decide (0 ≤ v4) then bif decide (v4 < nI v0.size) then NX (v0, IntKind.i64.wrap (IntKind.i64.wrap (v3 * 256) + IntKind.i64.wrap (Af v0 v4)), IntKind.i64.wrap (v4 + 1), ()) else none else none else X2 (v3, ())
noncomputable def E7 : Nat → (ByteArray) → (Int) → (Int) →  Option ((Int) × Unit)
 | 0, _, _, _ => none
 | m + 1, v0, v3, v4 => Ip  (fun d => E7 m d.1 d.2.1 d.2.2.1) (fun d => some (d)) v0 v3 v4
noncomputable def Ra (a0 : ByteArray) : Option ((((Int) × Unit) × (Unit))) :=
 ((fun d => E7 (Io d.1 d.2.1 d.2.2.1) d.1 d.2.1 d.2.2.1) (a0, 0, 0, ())).bind fun val => some (val, ())
theorem Af9 (s : ByteArray) (hs : s.size ≤ 7) : ∀ (k m i : Nat) (v : Int), i + k = s.size → k < m → 0 ≤ v → v < 256 ^ i → E7 m s v i = some (Asf s k i v, ())
 | 0, m + 1, i, v, hi, hm, h0, h1 => by
  simp only [E7, Ip]
  rw [decide_eq_false (show ¬ ((i : Int) < nI s.size) by simp only [nI]; omega)]
  rfl
 | k + 1, m + 1, i, v, hi, hm, h0, h1 => by
  obtain ⟨hb, hs', e⟩ := Azq s i hi (by omega) h0 h1
  simp only [E7, Ip]
  have c1 : (i : Int) < nI s.size := by simp only [nI]; omega
  rw [decide_eq_true c1, decide_eq_true (show (0 : Int) ≤ (i : Int) by omega), wI (show i < 4611686018427387904 by omega), e]
  exact Af9 s hs k m (i + 1) _ (by omega) (by omega) hb hs'
theorem Alb (a0 : ByteArray) r (h : Fb a0 = some r) : Ra a0 = some ((r, ()), (())) := by
 unfold Fb at h
 split at h
 ·rename_i hc
  cases h
  unfold Ra
  have hL := Af9 a0 hc a0.size (Io a0 0 0) 0 0 (by omega) (by simp only [Io, nI]; omega) (by omega) (by decide)
  exact Tk hL rfl
 ·cases h
noncomputable def Uo {R : Type} (k : Kt R) := (Iz (pa_spec_l1Read 4) (.exit 0) 2 k)
noncomputable def g5 {R : Type} : Lt R pa_spec_l1Read := (Ef (pat := pa_spec_l1Read) 4 (fun d k => (E7 (Io d.1 d.2.1 d.2.2.1) d.1 d.2.1 d.2.2.1).bind (Uo k)) Fu)
theorem Yq : As Tryz.prog ta_spec_l1Read := Au trivial
theorem Aef {R : Type} : Ay Tryz.prog R 19 0 pa_spec_l1Read g5 co_spec_l1Read_4 :=
 B6 (cfg := ⟨ta_spec_l1Read, 0, 19, pa_spec_l1Read⟩) 4 [] (fun NX X d => Ip  NX X d.1 d.2.1 d.2.2.1) (fun m d => E7 m d.1 d.2.1 d.2.2.1) (fun d => Io d.1 d.2.1 d.2.2.1) Uo Yq trivial (fun f NX d => by unfold Ip; simp only [Am, Ap, Ah, Option.bind_assoc, Option.bind_none, Option.bind_some]) (fun _ _ _ => by kernel_rfl)
theorem Yr : Bo Tryz.prog 75 sd_spec_l1Read :=
 At (pat := pa_spec_l1Read) [co_spec_l1Read_4] g5 Yq ⟨Aef, trivial⟩ Tryz.func75 (de := fun x => Ra x.1) (fun x r h => Az (Alb x.1) h) fun _ => by kernel_rfl
def Ac (s : ByteArray) (w : Int) : Pg × Bool := Cm s w
def Aeg : Sig := ⟨[.rd .str, .rd tI], [none, none], [.rd yPg, .rd .bool], [some 4, none]⟩
noncomputable def sd_spec_ReadPage : SD := ⟨Aeg, fun x => some (((Ac x.1 x.2.1).1, (Ac x.1 x.2.1).2, ()), (()))⟩
noncomputable def N1 (a0 : ByteArray) (a1 : Int) : Option (((Pg × (Bool) × Unit) × (Unit))) :=
 Option.bind (bif decide (a1 ≥ 1) then some ((decide (a1 ≤ 8), ()), ()) else some ((false, ()), ())) fun val => bif !val.1.1 then some (((0, 0, 0, ByteArray.mk #[], ()), false, ()), ()) else bif nI a0.size != 64 then some (((0, 0, 0, ByteArray.mk #[], ()), false, ()), ()) else bif decide (0 ≤ a1) then bif decide (a1 ≤ nI a0.size) then bif decide (7 < nI (Ag a0 a1 (nI a0.size)).size) then bif decide (IntKind.i64.wrap (Af (Ag a0 a1 (nI a0.size)) 7) > IntKind.i64.wrap (IntKind.i64.wrap (64 - a1) - 8)) then some (((0, 0, 0, ByteArray.mk #[], ()), false, ()), ()) else bif decide (0 < nI (Ag a0 a1 (nI a0.size)).size) then bif decide (3 ≤ nI (Ag a0 a1 (nI a0.size)).size) then ((Fb (Ag (Ag a0 a1 (nI a0.size)) 1 3)).bind fun val => some ((val, ()), ())).bind fun val => bif decide (7 ≤ nI (Ag a0 a1 (nI a0.size)).size) then ((Fb (Ag (Ag a0 a1 (nI a0.size)) 3 7)).bind fun val => some ((val, ()), ())).bind fun val_1 => bif decide (8 ≤ IntKind.i64.wrap (8 + IntKind.i64.wrap (Af (Ag a0 a1 (nI a0.size)) 7))) then bif decide (IntKind.i64.wrap (8 + IntKind.i64.wrap (Af (Ag a0 a1 (nI a0.size)) 7)) ≤ nI (Ag a0 a1 (nI a0.size)).size) then bif !(Cb (IntKind.i64.wrap (Af (Ag a0 a1 (nI a0.size)) 0), val.1.1, val_1.1.1, Ag (Ag a0 a1 (nI a0.size)) 8 (IntKind.i64.wrap (8 + IntKind.i64.wrap (Af (Ag a0 a1 (nI a0.size)) 7))), ()) a1).toList == a0.toList then some (((0, 0, 0, ByteArray.mk #[], ()), false, ()), ()) else some (((IntKind.i64.wrap (Af (Ag a0 a1 (nI a0.size)) 0), val.1.1, val_1.1.1, Ag (Ag a0 a1 (nI a0.size)) 8 (IntKind.i64.wrap (8 + IntKind.i64.wrap (Af (Ag a0 a1 (nI a0.size)) 7))), ()), true, ()), ()) else none else none else none else none else none else none else none else none
theorem Aeh (a0 : ByteArray) (a1 : Int) : N1 a0 a1 = some (((Ac a0 a1).1, (Ac a0 a1).2, ()), (())) := by
 unfold N1 Ac Cm
 refine Tk (wid a1) ?_
 show (bif !E9 a1 1 8 then _ else (bif nI a0.size != 64 then _ else _)) = _
 cases hz : nI a0.size != 64 with
 | true => cases E9 a1 1 8 <;> rfl
 | false =>
   cases hw : E9 a1 1 8 with
   | false => rfl
   | true =>
    have k1 := (Hb hw).1
    have k2 := (Hb hw).2
    have hs : a0.size = 64 := by
     by_cases q : nI a0.size = 64
     ·simp only [nI] at q; omega
     ·rw [(bne_iff_ne).2 q] at hz; cases hz
    have hb : (Ag a0 a1 (nI a0.size)).size = (64 - a1).toNat := by rw [E3 (by omega) (by simp only [nI]; omega) (by simp [nI])]; simp only [nI, hs]; omega
    simp only [Bool.not_true, cond_false, cond_true]
    rw [decide_eq_true (show (0 : Int) ≤ a1 by omega), decide_eq_true (show a1 ≤ nI a0.size by simp only [nI]; omega)]
    unfold Au0
    generalize Ag a0 a1 (nI a0.size) = b at *
    obtain ⟨b0, b1⟩ := Fw b 7
    obtain ⟨c0, c1⟩ := Fw b 0
    have hB : nI b.size = 64 - a1 := by simp only [nI]; omega
    rw [hB, decide_eq_true (show (7 : Int) < 64 - a1 by omega), decide_eq_true (show (0 : Int) < 64 - a1 by omega), decide_eq_true (show (3 : Int) ≤ 64 - a1 by omega), decide_eq_true (show (7 : Int) ≤ 64 - a1 by omega), Ad (n := Af b 7) (by omega) (by omega), Ad (n := Af b 0) (by omega) (by omega), Ad (n := 64 - a1) (by omega) (by omega), Ad (n := 64 - a1 - 8) (by omega) (by omega), Ad (n := 8 + Af b 7) (by omega) (by omega), show 64 - a1 - 8 = 56 - a1 by omega]
    by_cases q : Af b 7 > 56 - a1
    ·rw [decide_eq_true q]; rfl
    ·rw [decide_eq_false q]
     have n1 : Fb (Ag b 1 3) = some (Xw (Ag b 1 3)) := if_pos (by rw [E3 (by omega) (by omega) (by omega)]; decide)
     have n2 : Fb (Ag b 3 7) = some (Xw (Ag b 3 7)) := if_pos (by rw [E3 (by omega) (by omega) (by omega)]; decide)
     simp only [n1, n2, Option.bind_some, cond_true, cond_false]
     rw [decide_eq_true (show 8 ≤ 8 + Af b 7 by omega), decide_eq_true (show 8 + Af b 7 ≤ 64 - a1 by omega)]
     show (bif !(ByteArray.toList (Db (Auz b) a1) == ByteArray.toList a0) then _ else _) = _
     cases (ByteArray.toList (Db (Auz b) a1) == ByteArray.toList a0) <;> rfl
theorem Up : Bo Tryz.prog 14 sd_spec_ReadPage :=
 At (pat := Cr) [] Fu (Au (l := [(69, sd_spec_l1Width), (74, sd_spec_l1Part), (75, sd_spec_l1Read), (76, sd_spec_FormPage)]) ⟨Ev, Q4, Yr, Im, trivial⟩) trivial Tryz.func14 (de := fun x => N1 x.1 x.2.1) (fun x r h => (Aeh x.1 x.2.1).trans h) fun _ => by kernel_rfl
def F4 (r : Rt) (w : Int) : ByteArray := Qk r w
def Aei : Sig := ⟨[.rd yRt, .rd tI], [some 4, none], [.rd .str], [none]⟩
noncomputable def sd_spec_RootPage : SD := ⟨Aei, fun x => some (((F4 x.1 x.2.1), ()), (()))⟩
noncomputable def N2 (a0 : Rt) (a1 : Int) : Option ((((ByteArray) × Unit) × (Unit))) :=
 bif decide (a0.2.1 < 0) then some ((ByteArray.mk #[], ()), ()) else bif decide (a0.2.1 > 1) then some ((ByteArray.mk #[], ()), ()) else bif decide (a0.2.2.1 < 1) then some ((ByteArray.mk #[], ()), ()) else bif decide (a0.2.2.1 > 999999000) then some ((ByteArray.mk #[], ()), ()) else ((Bg a0.2.1 1).bind fun val => some ((val, ()), ())).bind fun val => ((Bg a0.2.2.1 4).bind fun val => some ((val, ()), ())).bind fun val_1 => bif decide (ByteArray.size val.1.1 + ByteArray.size val_1.1.1 ≤ 9223372036854775807) then some ((Cb (4, a0.2.2.2.1, a0.1, val.1.1 ++ val_1.1.1, ()) a1, ()), ()) else none
theorem Aej (a0 : Rt) (a1 : Int) : N2 a0 a1 = some (((F4 a0 a1), ()), (())) := by
 unfold N2 F4 Qk L9
 rw [Aj2 a0.2.1, Aj2 a0.2.2.1]
 cases h1 : E9 a0.2.1 0 1 with
 | false => rfl
 | true =>
  cases h2 : E9 a0.2.2.1 1 999999000 with
  | false => rfl
  | true =>
   have q1 := Hb h1
   have q2 := Hb h2
   have n1 : Bg a0.2.1 1 = some (Cv a0.2.1 1) := (E5 _ _).trans (if_pos (by omega))
   have n2 : Bg a0.2.2.1 4 = some (Cv a0.2.2.1 4) := (E5 _ _).trans (if_pos (by omega))
   simp only [n1, n2, Option.bind_some, cond_true]
   rw [Ii, Ii, decide_eq_true (show 1 + 4 ≤ 9223372036854775807 by decide)]
   rfl
theorem Uq : Bo Tryz.prog 184 sd_spec_RootPage :=
 At (pat := Cr) [] Fu (Au (l := [(76, sd_spec_FormPage), (162, sd_spec_l1Number)]) ⟨Im, Ul, trivial⟩) trivial Tryz.func184 (de := fun x => N2 x.1 x.2.1) (fun x r h => (Aej x.1 x.2.1).trans h) fun _ => by kernel_rfl
def Ct (s : ByteArray) (at' w : Int) : Rt × Bool :=
 bif (Cm s w).2 && decide ((Cm s w).1.2.2.2.1.size = 5) then (Jp (Cm s w).1, ((Qk (Jp (Cm s w).1) w).toList == s.toList) && (Int.tmod (Cm s w).1.2.2.1 2 == at')) else ((0, 0, 0, 0, ()), false)
def Aqf : Sig := ⟨[.rd .str, .rd tI, .rd tI], [none, none, none], [.rd yRt, .rd .bool], [some 4, none]⟩
noncomputable def sd_spec_l5At : SD := ⟨Aqf, fun x => some (((Ct x.1 x.2.1 x.2.2.1).1, (Ct x.1 x.2.1 x.2.2.1).2, ()), (()))⟩
noncomputable def V5 (a0 : ByteArray) (a1 : Int) (a2 : Int) : Option (((Rt × (Bool) × Unit) × (Unit))) :=
 bif !(Ac a0 a2).2 then some (((0, 0, 0, 0, ()), false, ()), ()) else bif nI (ByteArray.size (Ac a0 a2).1.2.2.2.1) != 5 then some (((0, 0, 0, 0, ()), false, ()), ()) else bif decide (0 < nI (ByteArray.size (Ac a0 a2).1.2.2.2.1)) then bif decide (1 ≤ nI (ByteArray.size (Ac a0 a2).1.2.2.2.1)) then ((Fb (Ag (Ac a0 a2).1.2.2.2.1 1 (nI (ByteArray.size (Ac a0 a2).1.2.2.2.1)))).bind fun val => some ((val, ()), ())).bind fun val => bif (F4 ((Ac a0 a2).1.2.2.1, IntKind.i64.wrap (Af (Ac a0 a2).1.2.2.2.1 0), val.1.1, (Ac a0 a2).1.2.1, ()) a2).toList == a0.toList then some ((((Ac a0 a2).1.2.2.1, IntKind.i64.wrap (Af (Ac a0 a2).1.2.2.2.1 0), val.1.1, (Ac a0 a2).1.2.1, ()), Int.tmod (Ac a0 a2).1.2.2.1 2 == a1, ()), ()) else some ((((Ac a0 a2).1.2.2.1, IntKind.i64.wrap (Af (Ac a0 a2).1.2.2.2.1 0), val.1.1, (Ac a0 a2).1.2.1, ()), false, ()), ()) else none else none
theorem Aqg (a0 : ByteArray) (a1 : Int) (a2 : Int) : V5 a0 a1 a2 = some (((Ct a0 a1 a2).1, (Ct a0 a1 a2).2, ()), (())) := by
 unfold V5 Ct
 have e : Ac a0 a2 = Cm a0 a2 := rfl
 rw [e]
 generalize Cm a0 a2 = p
 obtain ⟨g, o⟩ := p
 cases o
 ·rfl
 ·by_cases h5 : g.2.2.2.1.size = 5
  ·have n1 : Fb (Ag g.2.2.2.1 1 (nI g.2.2.2.1.size)) = some (Xw (Ag g.2.2.2.1 1 (nI g.2.2.2.1.size))) := if_pos (by rw [E3 (by omega) (by simp only [nI]; omega) (by simp [nI])]; simp only [nI]; omega)
   obtain ⟨b0, b1⟩ := Fw g.2.2.2.1 0
   simp only [n1, Option.bind_some, Bool.not_true, cond_false, Bool.true_and]
   rw [bne_eq_false_iff_eq.2 (show nI g.2.2.2.1.size = 5 by simp only [nI]; omega), decide_eq_true h5, decide_eq_true (show 0 < nI g.2.2.2.1.size by simp only [nI]; omega), decide_eq_true (show 1 ≤ nI g.2.2.2.1.size by simp only [nI]; omega), Ad (n := Af g.2.2.2.1 0) (by omega) (by omega)]
   show (bif (ByteArray.toList (Qk (Jp g) a2) == ByteArray.toList a0) then _ else _) = _
   cases hq : (ByteArray.toList (Qk (Jp g) a2) == ByteArray.toList a0) <;> rfl
  ·simp only [Bool.not_true, cond_false, Bool.true_and]
   rw [bne_iff_ne.2 (show nI g.2.2.2.1.size ≠ 5 by simp only [nI]; omega), decide_eq_false h5]
   rfl
theorem Aqh : Bo Tryz.prog 181 sd_spec_l5At :=
 At (pat := Cr) [] Fu (Au (l := [(14, sd_spec_ReadPage), (75, sd_spec_l1Read), (184, sd_spec_RootPage)]) ⟨Up, Yr, Uq, trivial⟩) trivial Tryz.func181 (de := fun x => V5 x.1 x.2.1 x.2.2.1) (fun x r h => (Aqg x.1 x.2.1 x.2.2.1).trans h) fun _ => by kernel_rfl
def Ae (d : Dk) (w : Int) : Rt := A6 d w
def Lk (v1 v7 : Int) (b0_0 b0_1 b0_2 b0_3 : Int) (b1_0 : List ByteArray) (b1_1 : List Wr) (b2_0 b2_1 b2_2 b2_3 : Int) : Nat := 3
def Aek : Sig := ⟨[.rd yDk, .rd tI], [some 2, none], [.rd yRt], [some 4]⟩
noncomputable def sd_spec_FindRoot : SD := ⟨Aek, fun x => some (((Ae x.1 x.2.1), ()), (()))⟩
noncomputable def ta_spec_FindRoot : Tb := tb [(69, sd_spec_l1Width), (70, sd_spec_ValidDisk), (179, sd_spec_l2Sync), (180, sd_spec_l2Copy), (181, sd_spec_l5At)]
def pa_spec_FindRoot : Nat → Pat × (Nat → Pat) := Fe [(7, ⟨[.boxSl 5 0 .str, .boxSl 5 1 Eb], [(1, .lf (.d tI)), (4, .lf (.ptr 0 0)), (5, .lf (.ptr 1 0)), (6, .lf (.ptr 2 0)), (7, .lf (.d tI))], [.box 28 [.d tI, .d tI, .d tI, .d tI], .box 26 [.d (.sl .str), .d (.sl Eb)], .box 28 [.d tI, .d tI, .d tI, .d tI]]⟩, [(2, ⟨[], [(4, .lf (.ptr 0 0)), (6, .lf (.ptr 1 0))], [.box 28 [.d tI, .d tI, .d tI, .d tI], .box 28 [.d tI, .d tI, .d tI, .d tI]]⟩)])]
noncomputable def co_spec_FindRoot_7 : Code := (Ao (A8 Tryz.f105)).getD 0 .skip
noncomputable def I2 {R : Type}  (NX : ((Int) × (Int) × (Int) × (Int) × (Int) × (Int) × (List ByteArray) × (List Wr) × (Int) × (Int) × (Int) × (Int) × Unit) → Option R) (X2 : ((Int) × (Int) × (Int) × (Int) × (Int) × (Int) × (Int) × (Int) × Unit) → Option R) (v1 : Int) (v7 : Int) (b0_0 : Int) (b0_1 : Int) (b0_2 : Int) (b0_3 : Int) (b1_0 : List ByteArray) (b1_1 : List Wr) (b2_0 : Int) (b2_1 : Int) (b2_2 : Int) (b2_3 : Int) : Option R :=
 bif decide (v7 < 2) then bif decide (0 ≤ v7) then bif decide (v7 < nI b1_0.length) then bif (Ct (b1_0.getD v7.toNat (ByteArray.mk #[])) v7 v1).2 then bif decide ((Ct (b1_0.getD v7.toNat (ByteArray.mk #[])) v7 v1).1.1 > b2_0) then NX (v1, IntKind.i64.wrap (v7 + 1), b0_0, b0_1, b0_2, b0_3, b1_0, b1_1, (Ct (b1_0.getD v7.toNat (ByteArray.mk #[])) v7 v1).1) else NX (v1, IntKind.i64.wrap (v7 + 1), b0_0, b0_1, b0_2, b0_3, b1_0, b1_1, b2_0, b2_1, b2_2, b2_3, ()) else NX (v1, IntKind.i64.wrap (v7 + 1), b0_0, b0_1, b0_2, b0_3, b1_0, b1_1, b2_0, b2_1, b2_2, b2_3, ()) else none else none else X2 (b0_0, b0_1, b0_2, b0_3, b2_0, b2_1, b2_2, b2_3, ())
noncomputable def Dz : Nat → (Int) → (Int) → (Int) → (Int) → (Int) → (Int) → (List ByteArray) → (List Wr) → (Int) → (Int) → (Int) → (Int) →  Option ((Int) × (Int) × (Int) × (Int) × (Int) × (Int) × (Int) × (Int) × Unit)
 | 0, _, _, _, _, _, _, _, _, _, _, _, _ => none
 | m + 1, v1, v7, b0_0, b0_1, b0_2, b0_3, b1_0, b1_1, b2_0, b2_1, b2_2, b2_3 => I2  (fun d => Dz m d.1 d.2.1 d.2.2.1 d.2.2.2.1 d.2.2.2.2.1 d.2.2.2.2.2.1 d.2.2.2.2.2.2.1 d.2.2.2.2.2.2.2.1 d.2.2.2.2.2.2.2.2.1 d.2.2.2.2.2.2.2.2.2.1 d.2.2.2.2.2.2.2.2.2.2.1 d.2.2.2.2.2.2.2.2.2.2.2.1) (fun d => some (d)) v1 v7 b0_0 b0_1 b0_2 b0_3 b1_0 b1_1 b2_0 b2_1 b2_2 b2_3
noncomputable def N3 (a0 : Dk) (a1 : Int) : Option (((Rt × Unit) × (Unit))) :=
 bif !Gl a0 then some (((0, 0, 0, 0, ()), ()), ()) else Option.bind (bif decide (a1 ≥ 1) then some ((decide (a1 ≤ 8), ()), ()) else some ((false, ()), ())) fun val => bif !val.1.1 then some (((0, 0, 0, 0, ()), ()), ()) else ((H2 a0).bind fun val => some (val, ())).bind fun val => ((H1 val.1).bind fun val => some (val, ())).bind fun val => ((fun d => Dz (Lk d.1 d.2.1 d.2.2.1 d.2.2.2.1 d.2.2.2.2.1 d.2.2.2.2.2.1 d.2.2.2.2.2.2.1 d.2.2.2.2.2.2.2.1 d.2.2.2.2.2.2.2.2.1 d.2.2.2.2.2.2.2.2.2.1 d.2.2.2.2.2.2.2.2.2.2.1 d.2.2.2.2.2.2.2.2.2.2.2.1) d.1 d.2.1 d.2.2.1 d.2.2.2.1 d.2.2.2.2.1 d.2.2.2.2.2.1 d.2.2.2.2.2.2.1 d.2.2.2.2.2.2.2.1 d.2.2.2.2.2.2.2.2.1 d.2.2.2.2.2.2.2.2.2.1 d.2.2.2.2.2.2.2.2.2.2.1 d.2.2.2.2.2.2.2.2.2.2.2.1) (a1, 0, 0, 0, 0, 0, val.1.1, val.1.2.1, 0, 0, 1, 0, ())).bind fun val => some ((val.2.2.2.2, ()), ())
theorem A1e (s : ByteArray) (w : Int) (i : Nat) (b : Rt) : (bif (Ct s i w).2 then (bif decide ((Ct s i w).1.1 > b.1) then (Ct s i w).1 else b) else b) = Fg s w i b := by
 unfold Ct Fg
 have hf := @Qo s w
 have hr := @Axw s w
 generalize Cm s w = p at *
 obtain ⟨g, o⟩ := p
 cases o
 ·rfl
 ·obtain ⟨_, _, _, hp⟩ := hf rfl
  obtain ⟨_, _, r3, _⟩ := X3 hp
  by_cases h5 : g.2.2.2.1.size = 5
  ·have hr := hr rfl h5
   simp only [decide_eq_true h5, Bool.true_and, cond_true, hr]
   rw [Int.tmod_eq_emod_of_nonneg (by omega)]
   have e : (Jp g).1 = g.2.2.1 := rfl
   rw [e]
   cases (g.1 == 4) <;> cases L9 (Jp g) <;> cases (g.2.2.1 % 2 == (i : Int)) <;> cases decide (g.2.2.1 > b.1) <;> rfl
  ·simp only [decide_eq_false h5, Bool.true_and, cond_false, Bool.and_false, Bool.false_and]
theorem Atd (X : List ByteArray) (P : List Wr) (w : Int) (i : Nat) (hi : i < 2) (hX : 2 ≤ X.length) (m : Nat) (x1 x2 x3 x4 : Int) (b : Rt) :
  Dz (m + 1) w i x1 x2 x3 x4 X P b.1 b.2.1 b.2.2.1 b.2.2.2.1 = Dz m w ((i + 1 : Nat) : Int) x1 x2 x3 x4 X P (Fg (X.getD i z0) w i b).1 (Fg (X.getD i z0) w i b).2.1 (Fg (X.getD i z0) w i b).2.2.1 (Fg (X.getD i z0) w i b).2.2.2.1 := by
 simp only [Dz, I2]
 rw [decide_eq_true (show (i : Int) < 2 by omega), F2, decide_eq_true (show (i : Int) < nI X.length by simp only [nI]; omega), wI (show i < 4611686018427387904 by omega), Int.toNat_natCast, ← A1e]
 show (bif (Ct (X.getD i z0) i w).2 then (bif decide ((Ct (X.getD i z0) i w).1.1 > b.1) then _ else _) else _) = _
 cases (Ct (X.getD i z0) i w).2
 ·rfl
 ·cases decide ((Ct (X.getD i z0) i w).1.1 > b.1) <;> rfl
theorem Ael (a0 : Dk) (a1 : Int) : N3 a0 a1 = some (((Ae a0 a1), ()), (())) := by
 unfold N3 Ae A6
 show (bif !B8 a0 then _ else _) = _
 cases hv : B8 a0 with
 | false => rfl
 | true =>
  refine Tk (wid a1) ?_
  show (bif !E9 a1 1 8 then _ else _) = _
  cases hw : E9 a1 1 8 with
  | false => rfl
  | true =>
   obtain ⟨k1, k2, k3, k4, k5⟩ := Aay hv
   have e1 : H2 (a0.1, a0.2.1, ()) = some a0 := if_pos ⟨by show a0.1.length ≤ _; omega, by show a0.2.1.length ≤ _; omega⟩
   have e2 : H1 (a0.1, a0.2.1, ()) = some (Ase a0) := if_pos ⟨by show a0.2.1.length ≤ _; omega, fun i hi => ⟨(k5 i hi).1, (k5 i hi).2.1⟩⟩
   have hlen : (Kk a0.1 a0.2.1).length = a0.1.length := P1 _ _
   have hg : ∀ i : Nat, i < 2 → (Kk a0.1 a0.2.1).getD i z0 = Pz a0 i := fun i hi => Asi a0.1 i (by omega) a0.2.1 (fun w hw => by
    obtain ⟨j, hj, rfl⟩ := Xz zW hw
    exact (k5 j hj).1)
   have h1 := Atd (Kk a0.1 a0.2.1) [] a1 0 (by omega) (by omega) 2 0 0 0 0 (0, 0, 1, 0, ())
   have h2 := Atd (Kk a0.1 a0.2.1) [] a1 1 (by omega) (by omega) 1 0 0 0 0 (Fg ((Kk a0.1 a0.2.1).getD 0 z0) a1 (0 : Nat) (0, 0, 1, 0, ()))
   have h3 := h1.trans h2
   rw [hg 0 (by omega), hg 1 (by omega)] at h3
   simp only [e1, e2, Option.bind_some, Bool.not_true, cond_false]
   exact Tk h3 rfl
noncomputable def Rb {R : Type} (k : Kt R) := (Iz (pa_spec_FindRoot 7) (.exit 0) 2 k)
noncomputable def Ww {R : Type} : Lt R pa_spec_FindRoot := (Ef (pat := pa_spec_FindRoot) 7 (fun d k => (Dz (Lk d.1 d.2.1 d.2.2.1 d.2.2.2.1 d.2.2.2.2.1 d.2.2.2.2.2.1 d.2.2.2.2.2.2.1 d.2.2.2.2.2.2.2.1 d.2.2.2.2.2.2.2.2.1 d.2.2.2.2.2.2.2.2.2.1 d.2.2.2.2.2.2.2.2.2.2.1 d.2.2.2.2.2.2.2.2.2.2.2.1) d.1 d.2.1 d.2.2.1 d.2.2.2.1 d.2.2.2.2.1 d.2.2.2.2.2.1 d.2.2.2.2.2.2.1 d.2.2.2.2.2.2.2.1 d.2.2.2.2.2.2.2.2.1 d.2.2.2.2.2.2.2.2.2.1 d.2.2.2.2.2.2.2.2.2.2.1 d.2.2.2.2.2.2.2.2.2.2.2.1).bind (Rb k)) Fu)
theorem Ur : As Tryz.prog ta_spec_FindRoot := Au ⟨Ev, Mw, Yo, Yp, Aqh, trivial⟩
theorem q9 {R : Type} : Ay Tryz.prog R 48 0 pa_spec_FindRoot Ww co_spec_FindRoot_7 :=
 B6 (cfg := ⟨ta_spec_FindRoot, 0, 48, pa_spec_FindRoot⟩) 7 [] (fun NX X d => I2  NX X d.1 d.2.1 d.2.2.1 d.2.2.2.1 d.2.2.2.2.1 d.2.2.2.2.2.1 d.2.2.2.2.2.2.1 d.2.2.2.2.2.2.2.1 d.2.2.2.2.2.2.2.2.1 d.2.2.2.2.2.2.2.2.2.1 d.2.2.2.2.2.2.2.2.2.2.1 d.2.2.2.2.2.2.2.2.2.2.2.1) (fun m d => Dz m d.1 d.2.1 d.2.2.1 d.2.2.2.1 d.2.2.2.2.1 d.2.2.2.2.2.1 d.2.2.2.2.2.2.1 d.2.2.2.2.2.2.2.1 d.2.2.2.2.2.2.2.2.1 d.2.2.2.2.2.2.2.2.2.1 d.2.2.2.2.2.2.2.2.2.2.1 d.2.2.2.2.2.2.2.2.2.2.2.1) (fun d => Lk d.1 d.2.1 d.2.2.1 d.2.2.2.1 d.2.2.2.2.1 d.2.2.2.2.2.1 d.2.2.2.2.2.2.1 d.2.2.2.2.2.2.2.1 d.2.2.2.2.2.2.2.2.1 d.2.2.2.2.2.2.2.2.2.1 d.2.2.2.2.2.2.2.2.2.2.1 d.2.2.2.2.2.2.2.2.2.2.2.1) Rb Ur trivial (fun f NX d => by unfold I2; simp only [Am, Ap, Ah, Option.bind_assoc, Option.bind_none, Option.bind_some]) (fun _ _ _ => by kernel_rfl)
theorem Aem : Bo Tryz.prog 105 sd_spec_FindRoot :=
 At (pat := pa_spec_FindRoot) [co_spec_FindRoot_7] Ww Ur ⟨q9, trivial⟩ Tryz.func105 (de := fun x => N3 x.1 x.2.1) (fun x r h => (Ael x.1 x.2.1).trans h) fun _ => by kernel_rfl
def Kw (was p : Pg) : Bool := Aj8 was.1 was.2.1 p
def Alc : Sig := ⟨[.rd yPg, .rd yPg], [some 4, some 4], [.rd .bool], [none]⟩
noncomputable def sd_spec_l3Goes : SD := ⟨Alc, fun x => some (((Kw x.1 x.2.1), ()), (()))⟩
noncomputable def Rc (a0 : Pg) (a1 : Pg) : Option ((((Bool) × Unit) × (Unit))) :=
 bif decide (a1.2.1 < a0.2.1) then some ((false, ()), ()) else bif a1.1 == 3 then some ((a0.1 != 1, ()), ()) else bif a1.1 == 1 then bif a0.1 != 1 then some ((true, ()), ()) else some ((a0.2.1 == a1.2.1, ()), ()) else bif a1.1 == 2 then bif a0.1 != 1 then some ((true, ()), ()) else some ((a0.2.1 == a1.2.1, ()), ()) else some ((false, ()), ())
theorem Ald (a0 : Pg) (a1 : Pg) : Rc a0 a1 = some (((Kw a0 a1), ()), (())) := by
 unfold Rc Kw Aj8
 cases decide (a1.2.1 < a0.2.1) <;> cases (a1.1 == 3) <;> cases (a1.1 == 1) <;> cases (a1.1 == 2) <;> cases (a0.1 != 1) <;> rfl
theorem Ale : Bo Tryz.prog 182 sd_spec_l3Goes :=
 At (pat := Cr) [] Fu (Au (l := []) trivial) trivial Tryz.func182 (de := fun x => Rc x.1 x.2.1) (fun x r h => (Ald x.1 x.2.1).trans h) fun _ => by kernel_rfl
def B9 (d : Dk) (from_ size first life w : Int) : Scd := Sa d from_ size first life w
def Aqi : Sig := ⟨[.rd yDk, .rd tI, .rd tI, .rd tI, .rd tI, .rd tI], [some 2, none, none, none, none, none], [.own 9 .str, .rd tI, .rd tI], [some 3]⟩
noncomputable def sd_spec_Scan : SD := ⟨Aqi, fun x => some (((B9 x.1 x.2.1 x.2.2.1 x.2.2.2.1 x.2.2.2.2.1 x.2.2.2.2.2.1).1, (B9 x.1 x.2.1 x.2.2.1 x.2.2.2.1 x.2.2.2.2.1 x.2.2.2.2.2.1).2.1, (B9 x.1 x.2.1 x.2.2.1 x.2.2.2.1 x.2.2.2.2.1 x.2.2.2.2.2.1).2.2.1, ()), (()))⟩
noncomputable def ta_spec_Scan : Tb := tb [(14, sd_spec_ReadPage), (69, sd_spec_l1Width), (70, sd_spec_ValidDisk), (179, sd_spec_l2Sync), (180, sd_spec_l2Copy), (182, sd_spec_l3Goes)]
def pa_spec_Scan : Nat → Pat × (Nat → Pat) := Fe [(9, ⟨[.boxRow 12 0 9 .str, .boxSl 13 0 .str, .boxSl 13 1 Eb, .boxRow 14 0 9 .str], [(1, .lf (.d tI)), (2, .lf (.d tI)), (3, .lf (.d tI)), (5, .lf (.d tI)), (12, .lf (.ptr 0 0)), (13, .lf (.ptr 1 0)), (14, .lf (.ptr 2 0)), (15, .lf (.ptr 3 0)), (16, .lf (.d .str)), (17, .lf (.d tI))], [.box 142 [.row 4, .d tI, .d tI], .box 26 [.d (.sl .str), .d (.sl Eb)], .box 142 [.row 5, .d tI, .d tI], .box 41 [.d tI, .d tI, .d tI, .d .str], .row 9 .str, .row 9 .str]⟩, [(2, ⟨[.boxRow 12 0 9 .str, .boxRow 14 0 9 .str], [(12, .lf (.ptr 0 0)), (14, .lf (.ptr 1 0))], [.box 142 [.row 2, .d tI, .d tI], .box 142 [.row 3, .d tI, .d tI], .row 9 .str, .row 9 .str]⟩), (1, ⟨[.boxRow 12 0 9 .str], [(12, .lf (.ptr 0 0))], [.box 142 [.row 1, .d tI, .d tI], .row 9 .str]⟩)])]
noncomputable def co_spec_Scan_9 : Code := (Ao (A8 Tryz.f106)).getD 0 .skip
def G2 (v1 : Int) (v2 : Int) (v3 : Int) (v5 : Int) (v16 : ByteArray) (v17 : Int) (b0_1 : Int) (b0_2 : Int) (b1_0 : List ByteArray) (b1_1 : List Wr) (b2_1 : Int) (b2_2 : Int) (b3_0 : Int) (b3_1 : Int) (b3_2 : Int) (b3_3 : ByteArray) (r4 : List ByteArray) (r5 : List ByteArray) : Nat := (v2 - v17).toNat + 1
noncomputable def J3 {R : Type}  (NX : ((Int) × (Int) × (Int) × (Int) × (ByteArray) × (Int) × (Int) × (Int) × (List ByteArray) × (List Wr) × (Int) × (Int) × (Int) × (Int) × (Int) × (ByteArray) × (List ByteArray) × (List ByteArray) × Unit) → Option R) (X2 : ((Int) × (Int) × (Int) × (Int) × (List ByteArray) × (List ByteArray) × Unit) → Option R) (X1 : ((Int) × (Int) × (List ByteArray) × Unit) → Option R) (v1 : Int) (v2 : Int) (v3 : Int) (v5 : Int) (v16 : ByteArray) (v17 : Int) (b0_1 : Int) (b0_2 : Int) (b1_0 : List ByteArray) (b1_1 : List Wr) (b2_1 : Int) (b2_2 : Int) (b3_0 : Int) (b3_1 : Int) (b3_2 : Int) (b3_3 : ByteArray) (r4 : List ByteArray) (r5 : List ByteArray) : Option R :=
 bif decide (v17 < v2) then bif decide (0 ≤ IntKind.i64.wrap (v1 + v17)) then bif decide (IntKind.i64.wrap (v1 + v17) < nI b1_0.length) then bif !(Ac (b1_0.getD (IntKind.i64.wrap (v1 + v17)).toNat (ByteArray.mk #[])) v5).2 then X1 (b2_1, b2_2, r5, ()) else bif IntKind.i64.wrap ((Ac (b1_0.getD (IntKind.i64.wrap (v1 + v17)).toNat (ByteArray.mk #[])) v5).1.2.2.1 - v17) != v3 then X1 (b2_1, b2_2, r5, ()) else bif !Kw (b3_0, b3_1, b3_2, b3_3, ()) (Ac (b1_0.getD (IntKind.i64.wrap (v1 + v17)).toNat (ByteArray.mk #[])) v5).1 then X1 (b2_1, b2_2, r5, ()) else bif decide (v16.size + ByteArray.size (Ac (b1_0.getD (IntKind.i64.wrap (v1 + v17)).toNat (ByteArray.mk #[])) v5).1.2.2.2.1 ≤ 9223372036854775807) then bif (Ac (b1_0.getD (IntKind.i64.wrap (v1 + v17)).toNat (ByteArray.mk #[])) v5).1.1 == 1 then NX (v1, v2, v3, v5, v16 ++ (Ac (b1_0.getD (IntKind.i64.wrap (v1 + v17)).toNat (ByteArray.mk #[])) v5).1.2.2.2.1, IntKind.i64.wrap (v17 + 1), b0_1, b0_2, b1_0, b1_1, b2_1, b2_2, (Ac (b1_0.getD (IntKind.i64.wrap (v1 + v17)).toNat (ByteArray.mk #[])) v5).1.1, (Ac (b1_0.getD (IntKind.i64.wrap (v1 + v17)).toNat (ByteArray.mk #[])) v5).1.2.1, (Ac (b1_0.getD (IntKind.i64.wrap (v1 + v17)).toNat (ByteArray.mk #[])) v5).1.2.2.1, (Ac (b1_0.getD (IntKind.i64.wrap (v1 + v17)).toNat (ByteArray.mk #[])) v5).1.2.2.2.1, r4, r5, ()) else bif (Ac (b1_0.getD (IntKind.i64.wrap (v1 + v17)).toNat (ByteArray.mk #[])) v5).1.1 == 2 then bif decide ((r5.length + [v16 ++ (Ac (b1_0.getD (IntKind.i64.wrap (v1 + v17)).toNat (ByteArray.mk #[])) v5).1.2.2.2.1].length) * 16 ≤ 140737488355328) then NX (v1, v2, v3, v5, ByteArray.mk #[], IntKind.i64.wrap (v17 + 1), b0_1, b0_2, b1_0, b1_1, IntKind.i64.wrap (v17 + 1), (Ac (b1_0.getD (IntKind.i64.wrap (v1 + v17)).toNat (ByteArray.mk #[])) v5).1.2.1, (Ac (b1_0.getD (IntKind.i64.wrap (v1 + v17)).toNat (ByteArray.mk #[])) v5).1.1, (Ac (b1_0.getD (IntKind.i64.wrap (v1 + v17)).toNat (ByteArray.mk #[])) v5).1.2.1, (Ac (b1_0.getD (IntKind.i64.wrap (v1 + v17)).toNat (ByteArray.mk #[])) v5).1.2.2.1, (Ac (b1_0.getD (IntKind.i64.wrap (v1 + v17)).toNat (ByteArray.mk #[])) v5).1.2.2.2.1, r4, r5 ++ [v16 ++ (Ac (b1_0.getD (IntKind.i64.wrap (v1 + v17)).toNat (ByteArray.mk #[])) v5).1.2.2.2.1], ()) else none else NX (v1, v2, v3, v5, ByteArray.mk #[], IntKind.i64.wrap (v17 + 1), b0_1, b0_2, b1_0, b1_1, IntKind.i64.wrap (v17 + 1), (Ac (b1_0.getD (IntKind.i64.wrap (v1 + v17)).toNat (ByteArray.mk #[])) v5).1.2.1, (Ac (b1_0.getD (IntKind.i64.wrap (v1 + v17)).toNat (ByteArray.mk #[])) v5).1.1, (Ac (b1_0.getD (IntKind.i64.wrap (v1 + v17)).toNat (ByteArray.mk #[])) v5).1.2.1, (Ac (b1_0.getD (IntKind.i64.wrap (v1 + v17)).toNat (ByteArray.mk #[])) v5).1.2.2.1, (Ac (b1_0.getD (IntKind.i64.wrap (v1 + v17)).toNat (ByteArray.mk #[])) v5).1.2.2.2.1, r4, r5, ()) else none else none else none else X2 (b0_1, b0_2, b2_1, b2_2, r4, r5, ())
noncomputable def Em : Nat → (Int) → (Int) → (Int) → (Int) → (ByteArray) → (Int) → (Int) → (Int) → (List ByteArray) → (List Wr) → (Int) → (Int) → (Int) → (Int) → (Int) → (ByteArray) → (List ByteArray) → (List ByteArray) →  Option (((Int) × (Int) × (Int) × (Int) × (List ByteArray) × (List ByteArray) × Unit) ⊕ ((Int) × (Int) × (List ByteArray) × Unit))
 | 0, _, _, _, _, _, _, _, _, _, _, _, _, _, _, _, _, _, _ => none
 | m + 1, v1, v2, v3, v5, v16, v17, b0_1, b0_2, b1_0, b1_1, b2_1, b2_2, b3_0, b3_1, b3_2, b3_3, r4, r5 => J3  (fun d => Em m d.1 d.2.1 d.2.2.1 d.2.2.2.1 d.2.2.2.2.1 d.2.2.2.2.2.1 d.2.2.2.2.2.2.1 d.2.2.2.2.2.2.2.1 d.2.2.2.2.2.2.2.2.1 d.2.2.2.2.2.2.2.2.2.1 d.2.2.2.2.2.2.2.2.2.2.1 d.2.2.2.2.2.2.2.2.2.2.2.1 d.2.2.2.2.2.2.2.2.2.2.2.2.1 d.2.2.2.2.2.2.2.2.2.2.2.2.2.1 d.2.2.2.2.2.2.2.2.2.2.2.2.2.2.1 d.2.2.2.2.2.2.2.2.2.2.2.2.2.2.2.1 d.2.2.2.2.2.2.2.2.2.2.2.2.2.2.2.2.1 d.2.2.2.2.2.2.2.2.2.2.2.2.2.2.2.2.2.1) (fun d => some (.inl (d))) (fun d => some (.inr (d))) v1 v2 v3 v5 v16 v17 b0_1 b0_2 b1_0 b1_1 b2_1 b2_2 b3_0 b3_1 b3_2 b3_3 r4 r5
noncomputable def V6 (a0 : Dk) (a1 : Int) (a2 : Int) (a3 : Int) (a4 : Int) (a5 : Int) : Option ((((List ByteArray) × (Int) × (Int) × Unit) × (Unit))) :=
 bif !Gl a0 then some (([], 0, 0, ()), ()) else Option.bind (bif decide (a5 ≥ 1) then some ((decide (a5 ≤ 8), ()), ()) else some ((false, ()), ())) fun val => bif !val.1.1 then some (([], 0, 0, ()), ()) else bif decide (a1 < 0) then some (([], 0, 0, ()), ()) else bif decide (a2 < 0) then some (([], 0, 0, ()), ()) else bif decide (a1 > nI (List.length a0.1)) then some (([], 0, 0, ()), ()) else bif decide (a2 > IntKind.i64.wrap (nI (List.length a0.1) - a1)) then some (([], 0, 0, ()), ()) else ((H2 a0).bind fun val => some (val, ())).bind fun val => ((H1 val.1).bind fun val => some (val, ())).bind fun val => ((fun d => Em (G2 d.1 d.2.1 d.2.2.1 d.2.2.2.1 d.2.2.2.2.1 d.2.2.2.2.2.1 d.2.2.2.2.2.2.1 d.2.2.2.2.2.2.2.1 d.2.2.2.2.2.2.2.2.1 d.2.2.2.2.2.2.2.2.2.1 d.2.2.2.2.2.2.2.2.2.2.1 d.2.2.2.2.2.2.2.2.2.2.2.1 d.2.2.2.2.2.2.2.2.2.2.2.2.1 d.2.2.2.2.2.2.2.2.2.2.2.2.2.1 d.2.2.2.2.2.2.2.2.2.2.2.2.2.2.1 d.2.2.2.2.2.2.2.2.2.2.2.2.2.2.2.1 d.2.2.2.2.2.2.2.2.2.2.2.2.2.2.2.2.1 d.2.2.2.2.2.2.2.2.2.2.2.2.2.2.2.2.2.1) d.1 d.2.1 d.2.2.1 d.2.2.2.1 d.2.2.2.2.1 d.2.2.2.2.2.1 d.2.2.2.2.2.2.1 d.2.2.2.2.2.2.2.1 d.2.2.2.2.2.2.2.2.1 d.2.2.2.2.2.2.2.2.2.1 d.2.2.2.2.2.2.2.2.2.2.1 d.2.2.2.2.2.2.2.2.2.2.2.1 d.2.2.2.2.2.2.2.2.2.2.2.2.1 d.2.2.2.2.2.2.2.2.2.2.2.2.2.1 d.2.2.2.2.2.2.2.2.2.2.2.2.2.2.1 d.2.2.2.2.2.2.2.2.2.2.2.2.2.2.2.1 d.2.2.2.2.2.2.2.2.2.2.2.2.2.2.2.2.1 d.2.2.2.2.2.2.2.2.2.2.2.2.2.2.2.2.2.1) (a1, a2, a3, a5, ByteArray.mk #[], 0, 0, 0, val.1.1, val.1.2.1, 0, a4, 0, a4, 0, ByteArray.mk #[], [], [], ())).bind fun val => Cs (fun val => some ((val.2.2.2.2.2.1, val.2.2.1, val.2.2.2.1, ()), ())) (fun val => some ((val.2.2.1, val.1, val.2.1, ()), ())) val
def Awy (y : (Int × Int × Int × Int × List ByteArray × List ByteArray × Unit) ⊕ (Int × Int × List ByteArray × Unit)) : Scd := match y with
 | .inl v => (v.2.2.2.2.2.1, v.2.2.1, v.2.2.2.1, ())
 | .inr v => (v.2.2.1, v.1, v.2.1, ())
theorem Aot {d : Dk} (hd : Ld d) (f n : Nat) (hfn : f + n ≤ d.1.length) (first w b1 b2 : Int) (r4 : List ByteArray) : ∀ (k m i : Nat) (st : ScT) (num : Int) (part : ByteArray), i + k = n → k < m → Wh i st →
  ∃ y, Em m f n first w st.2.2.1 i b1 b2 (Kk d.1 d.2.1) [] st.2.2.2.2.1 st.2.2.2.2.2 st.1 st.2.1 num part r4 st.2.2.2.1 = some y ∧ Awy y = Lh w first (seen d f i k) i st
 | 0, m + 1, i, st, num, part, hi, _, _ => by
  simp only [Em, J3]
  rw [decide_eq_false (show ¬ (i : Int) < (n : Int) by omega)]
  exact ⟨_, rfl, rfl⟩
 | k + 1, m + 1, i, st, num, part, hi, hm, hI => by
  have h200 := hd.n200
  have e1 : IntKind.i64.wrap ((f : Int) + (i : Int)) = ((f + i : Nat) : Int) := by rw [Ad (by omega) (by omega)]; omega
  have e2 : List.getD (Kk d.1 d.2.1) (f + i) (ByteArray.mk #[]) = Pz d ((f : Int) + (i : Int)) := Azx hd (by omega)
  have e3 : decide (((f + i : Nat) : Int) < nI (Kk d.1 d.2.1).length) = true := decide_eq_true (by rw [P1]; simp only [nI]; omega)
  have e4 : IntKind.i64.wrap ((i : Int) + 1) = ((i + 1 : Nat) : Int) := wI (by omega)
  have es : seen d f i (k + 1) = Pz d ((f : Int) + (i : Int)) :: seen d f (i + 1) k := rfl
  simp only [Em, J3]
  rw [es, decide_eq_true (show (i : Int) < (n : Int) by omega)]
  simp only [e1, e2, e3, e4, F2, cond_true, Int.toNat_natCast, Ac, Kw]
  unfold Lh Adu
  generalize hx : Pz d ((f : Int) + (i : Int)) = x
  generalize hR : Cm x w = R
  obtain ⟨p, ok⟩ := R
  cases ok with
  | false => exact ⟨_, rfl, rfl⟩
  | true =>
   obtain ⟨q1, q2, q3⟩ := Aii hR
   have e5 : IntKind.i64.wrap (p.2.2.1 - (i : Int)) = p.2.2.1 - (i : Int) := Ad (by omega) (by omega)
   simp only [e5, Bool.not_true, cond_false, Bool.true_and, bne]
   cases hn : (p.2.2.1 - (i : Int) == first) with
   | false => exact ⟨_, rfl, rfl⟩
   | true =>
    simp only [Bool.not_true, cond_false, Bool.true_and]
    have hg : Aj8 st.1 st.2.1 (p.1, p.2.1, p.2.2.1, p.2.2.2.1, ()) = Aj8 st.1 st.2.1 p := rfl
    try simp only [hg]
    cases hgo : Aj8 st.1 st.2.1 p with
    | false => exact ⟨_, rfl, rfl⟩
    | true =>
     have hN := hI.next (by omega) q3
     have e6 : decide (ByteArray.size st.2.2.1 + ByteArray.size p.2.2.2.1 ≤ 9223372036854775807) = true := decide_eq_true (by have := hI.2.1; omega)
     have e7 : decide ((List.length st.2.2.2.1 + 1) * 16 ≤ 140737488355328) = true := decide_eq_true (by have := hI.2.2; omega)
     simp only [e6, Bool.not_true, cond_false, cond_true, List.length_singleton, e7]
     have ih := fun num part => Aot hd f n hfn first w b1 b2 r4 k m (i + 1) (Jw i p st) num part (by omega) (by omega) hN
     have ei : (i : Int) + 1 = ((i + 1 : Nat) : Int) := by omega
     rw [ei]
     unfold Jw at ih ⊢
     cases h1 : (p.1 == 1) with
     | true =>
      have hp : p.1 = 1 := eq_of_beq h1
      rw [h1] at ih
      have := ih p.2.2.1 p.2.2.2.1
      rw [hp]
      exact this
     | false =>
      rw [h1] at ih
      cases h2 : (p.1 == 2) with
      | true =>
       have hp : p.1 = 2 := eq_of_beq h2
       rw [h2] at ih
       have := ih p.2.2.1 p.2.2.2.1
       rw [hp]
       simp only [cond_false, cond_true, ei] at this ⊢
       exact this
      | false =>
       rw [h2] at ih
       have := ih p.2.2.1 p.2.2.2.1
       simp only [cond_false, ei] at this ⊢
       exact this
theorem Aqj (a0 : Dk) (a1 : Int) (a2 : Int) (a3 : Int) (a4 : Int) (a5 : Int) : V6 a0 a1 a2 a3 a4 a5 = some (((B9 a0 a1 a2 a3 a4 a5).1, (B9 a0 a1 a2 a3 a4 a5).2.1, (B9 a0 a1 a2 a3 a4 a5).2.2.1, ()), (())) := by
 unfold V6 B9 Sa
 show (bif !B8 a0 then _ else _) = _
 cases hv : B8 a0 with
 | false => rfl
 | true =>
  have hd := Aay hv
  simp only [Bool.not_true, cond_false]
  refine Tk (wid a5) ?_
  cases hw : E9 a5 1 8 with
  | false => rfl
  | true =>
   simp only [Bool.not_true, cond_false]
   have h200 := hd.n200
   by_cases h1 : a1 < 0
   ·rw [decide_eq_true h1, decide_eq_false (show ¬ 0 ≤ a1 by omega)]; rfl
   ·rw [decide_eq_false h1, decide_eq_true (show 0 ≤ a1 by omega)]
    by_cases h2 : a2 < 0
    ·rw [decide_eq_true h2, decide_eq_false (show ¬ 0 ≤ a2 by omega)]; rfl
    ·rw [decide_eq_false h2, decide_eq_true (show 0 ≤ a2 by omega)]
     by_cases h3 : a1 > nI a0.1.length
     ·rw [decide_eq_true h3, decide_eq_false (show ¬ a1 ≤ (a0.1.length : Int) by simp only [nI] at h3; omega)]; rfl
     ·have h3' : a1 ≤ (a0.1.length : Int) := by simp only [nI] at h3; omega
      rw [decide_eq_false h3, decide_eq_true h3']
      rw [Ad (n := nI a0.1.length - a1) (by simp only [nI]; omega) (by simp only [nI]; omega)]
      by_cases h4 : a2 > nI a0.1.length - a1
      ·rw [decide_eq_true h4, decide_eq_false (show ¬ a2 ≤ (a0.1.length : Int) - a1 by simp only [nI] at h4; omega)]; rfl
      ·have h4' : a2 ≤ (a0.1.length : Int) - a1 := by simp only [nI] at h4; omega
       rw [decide_eq_false h4, decide_eq_true h4']
       simp only [cond_false, cond_true, Bool.true_and, Bool.and_self]
       have c1 : H2 (a0.1, a0.2.1, ()) = some (a0.1, a0.2.1, ()) := if_pos ⟨Nat.le_trans hd.n200 (by decide), Nat.le_trans hd.p300 (by decide)⟩
       have c2 : H1 (a0.1, a0.2.1, ()) = some (Ase a0) := if_pos ⟨Nat.le_trans hd.p300 (by decide), fun k hk => ⟨(hd.pen k hk).1, (hd.pen k hk).2.1⟩⟩
       rw [c1]
       simp only [Option.bind_some]
       rw [c2]
       simp only [Option.bind_some]
       obtain ⟨f, rfl⟩ : ∃ f : Nat, a1 = (f : Int) := ⟨a1.toNat, by omega⟩
       obtain ⟨n, rfl⟩ : ∃ n : Nat, a2 = (n : Int) := ⟨a2.toNat, by omega⟩
       have hfu : n < G2 f n a3 a5 (ByteArray.mk #[]) 0 0 0 (Kk a0.1 a0.2.1) [] 0 a4 0 a4 0 (ByteArray.mk #[]) [] [] := by simp only [G2]; omega
       generalize hF : G2 f n a3 a5 (ByteArray.mk #[]) 0 0 0 (Kk a0.1 a0.2.1) [] 0 a4 0 a4 0 (ByteArray.mk #[]) [] [] = F at hfu
       have hfn : f + n ≤ a0.1.length := by omega
       have hst : Wh 0 (0, a4, z0, [], 0, a4) := Wh.zero _ _ _ _
       obtain ⟨y, hy1, hy2⟩ := Aot hd f n hfn a3 a5 0 0 [] n F 0 (0, a4, z0, [], 0, a4) 0 (ByteArray.mk #[])
        (Nat.zero_add n)
        hfu
        hst
       show (Em (G2 f n a3 a5 (ByteArray.mk #[]) 0 0 0 (Kk a0.1 a0.2.1) [] 0 a4 0 a4 0 (ByteArray.mk #[]) [] []) f n a3 a5 (ByteArray.mk #[]) 0 0 0 (Kk a0.1 a0.2.1) [] 0 a4 0 a4 0 (ByteArray.mk #[]) [] []).bind _ = _
       rw [hF]
       have hy1' : Em F f n a3 a5 (ByteArray.mk #[]) 0 0 0 (Kk a0.1 a0.2.1) [] 0 a4 0 a4 0 (ByteArray.mk #[]) [] [] = some y := hy1
       rw [hy1', Int.toNat_natCast]
       simp only [Option.bind_some]
       have hy3 : Awy y = Lh a5 a3 (seen a0 (f : Int) 0 n) 0 (0, a4, z0, [], 0, a4) := hy2
       rw [← hy3]
       cases y <;> rfl
noncomputable def Ys {R : Type} (k : Kt R) := (Cs (Iz (pa_spec_Scan 9) (.exit 0) 2 k) (Iz (pa_spec_Scan 9) .ret 1 k))
noncomputable def Aga {R : Type} : Lt R pa_spec_Scan := (Ef (pat := pa_spec_Scan) 9 (fun d k => (Em (G2 d.1 d.2.1 d.2.2.1 d.2.2.2.1 d.2.2.2.2.1 d.2.2.2.2.2.1 d.2.2.2.2.2.2.1 d.2.2.2.2.2.2.2.1 d.2.2.2.2.2.2.2.2.1 d.2.2.2.2.2.2.2.2.2.1 d.2.2.2.2.2.2.2.2.2.2.1 d.2.2.2.2.2.2.2.2.2.2.2.1 d.2.2.2.2.2.2.2.2.2.2.2.2.1 d.2.2.2.2.2.2.2.2.2.2.2.2.2.1 d.2.2.2.2.2.2.2.2.2.2.2.2.2.2.1 d.2.2.2.2.2.2.2.2.2.2.2.2.2.2.2.1 d.2.2.2.2.2.2.2.2.2.2.2.2.2.2.2.2.1 d.2.2.2.2.2.2.2.2.2.2.2.2.2.2.2.2.2.1) d.1 d.2.1 d.2.2.1 d.2.2.2.1 d.2.2.2.2.1 d.2.2.2.2.2.1 d.2.2.2.2.2.2.1 d.2.2.2.2.2.2.2.1 d.2.2.2.2.2.2.2.2.1 d.2.2.2.2.2.2.2.2.2.1 d.2.2.2.2.2.2.2.2.2.2.1 d.2.2.2.2.2.2.2.2.2.2.2.1 d.2.2.2.2.2.2.2.2.2.2.2.2.1 d.2.2.2.2.2.2.2.2.2.2.2.2.2.1 d.2.2.2.2.2.2.2.2.2.2.2.2.2.2.1 d.2.2.2.2.2.2.2.2.2.2.2.2.2.2.2.1 d.2.2.2.2.2.2.2.2.2.2.2.2.2.2.2.2.1 d.2.2.2.2.2.2.2.2.2.2.2.2.2.2.2.2.2.1).bind (Ys k)) Fu)
theorem Ab0 : As Tryz.prog ta_spec_Scan := Au ⟨Up, Ev, Mw, Yo, Yp, Ale, trivial⟩
theorem Alf {R : Type} : Ay Tryz.prog R 118 0 pa_spec_Scan Aga co_spec_Scan_9 :=
 B6 (cfg := ⟨ta_spec_Scan, 0, 118, pa_spec_Scan⟩) 9 [] (fun NX X d => J3  NX (fun e => X (.inl (e))) (fun e => X (.inr (e))) d.1 d.2.1 d.2.2.1 d.2.2.2.1 d.2.2.2.2.1 d.2.2.2.2.2.1 d.2.2.2.2.2.2.1 d.2.2.2.2.2.2.2.1 d.2.2.2.2.2.2.2.2.1 d.2.2.2.2.2.2.2.2.2.1 d.2.2.2.2.2.2.2.2.2.2.1 d.2.2.2.2.2.2.2.2.2.2.2.1 d.2.2.2.2.2.2.2.2.2.2.2.2.1 d.2.2.2.2.2.2.2.2.2.2.2.2.2.1 d.2.2.2.2.2.2.2.2.2.2.2.2.2.2.1 d.2.2.2.2.2.2.2.2.2.2.2.2.2.2.2.1 d.2.2.2.2.2.2.2.2.2.2.2.2.2.2.2.2.1 d.2.2.2.2.2.2.2.2.2.2.2.2.2.2.2.2.2.1) (fun m d => Em m d.1 d.2.1 d.2.2.1 d.2.2.2.1 d.2.2.2.2.1 d.2.2.2.2.2.1 d.2.2.2.2.2.2.1 d.2.2.2.2.2.2.2.1 d.2.2.2.2.2.2.2.2.1 d.2.2.2.2.2.2.2.2.2.1 d.2.2.2.2.2.2.2.2.2.2.1 d.2.2.2.2.2.2.2.2.2.2.2.1 d.2.2.2.2.2.2.2.2.2.2.2.2.1 d.2.2.2.2.2.2.2.2.2.2.2.2.2.1 d.2.2.2.2.2.2.2.2.2.2.2.2.2.2.1 d.2.2.2.2.2.2.2.2.2.2.2.2.2.2.2.1 d.2.2.2.2.2.2.2.2.2.2.2.2.2.2.2.2.1 d.2.2.2.2.2.2.2.2.2.2.2.2.2.2.2.2.2.1) (fun d => G2 d.1 d.2.1 d.2.2.1 d.2.2.2.1 d.2.2.2.2.1 d.2.2.2.2.2.1 d.2.2.2.2.2.2.1 d.2.2.2.2.2.2.2.1 d.2.2.2.2.2.2.2.2.1 d.2.2.2.2.2.2.2.2.2.1 d.2.2.2.2.2.2.2.2.2.2.1 d.2.2.2.2.2.2.2.2.2.2.2.1 d.2.2.2.2.2.2.2.2.2.2.2.2.1 d.2.2.2.2.2.2.2.2.2.2.2.2.2.1 d.2.2.2.2.2.2.2.2.2.2.2.2.2.2.1 d.2.2.2.2.2.2.2.2.2.2.2.2.2.2.2.1 d.2.2.2.2.2.2.2.2.2.2.2.2.2.2.2.2.1 d.2.2.2.2.2.2.2.2.2.2.2.2.2.2.2.2.2.1) Ys Ab0 trivial (fun f NX d => by unfold J3; simp only [Am, Ap, Ah, Option.bind_assoc, Option.bind_none, Option.bind_some]) (fun _ _ _ => by kernel_rfl)
theorem Aqk : Bo Tryz.prog 106 sd_spec_Scan :=
 At (pat := pa_spec_Scan) [co_spec_Scan_9] Aga Ab0 ⟨Alf, trivial⟩ Tryz.func106 (de := fun x => V6 x.1 x.2.1 x.2.2.1 x.2.2.2.1 x.2.2.2.2.1 x.2.2.2.2.2.1) (fun x r h => (Aqj x.1 x.2.1 x.2.2.1 x.2.2.2.1 x.2.2.2.2.1 x.2.2.2.2.2.1).trans h) fun _ => by kernel_rfl
def H3 (s : Stt) : Option Stt := if s.1.length ≤ 1000000 then some (s.1, ()) else none
def Alg : Sig := ⟨[.rd Py], [some 1], [.own 167 Aq], [some 1]⟩
noncomputable def sd_spec_l4Copy : SD := ⟨Alg, fun x => (H3 x.1).bind fun r => some ((r.1, ()), (()))⟩
noncomputable def Rd (a0 : Stt) : Option ((Stt × (Unit))) :=
 bif decide ((0 + List.length a0.1) * 32 ≤ 140737488355328) then some (([] ++ a0.1, ()), ()) else none
theorem Alh (a0 : Stt) r (h : H3 a0 = some r) : Rd a0 = some ((r.1, ()), (())) := by
 unfold H3 at h
 split at h
 ·rename_i hc
  cases h
  unfold Rd
  rw [decide_eq_true (show (0 + a0.1.length) * 32 ≤ 140737488355328 by omega)]
  rfl
 ·cases h
theorem Yt : Bo Tryz.prog 127 sd_spec_l4Copy :=
 At (pat := Cr) [] Fu (Au (l := []) trivial) trivial Tryz.func127 (de := fun x => Rd x.1) (fun x r h => Az (Alh x.1) h) fun _ => by kernel_rfl
def Jf (s : Stt) (c : Chg) : Option Stt := if s.1.length ≤ 1000000 then some (Akh c s.1, ()) else none
def Aen : Sig := ⟨[.rd Py, .rd Du], [some 1, some 3], [.own 167 Aq], [some 1]⟩
noncomputable def sd_spec_l4Change : SD := ⟨Aen, fun x => (Jf x.1 x.2.1).bind fun r => some ((r.1, ()), (()))⟩
noncomputable def ta_spec_l4Change : Tb := tb []
def pa_spec_l4Change : Nat → Pat × (Nat → Pat) := Fe [(5, ⟨[.boxSl 2 0 Aq, .boxRow 4 0 167 Aq, .boxRow 5 0 167 Aq], [(2, .lf (.ptr 0 0)), (3, .lf (.ptr 1 0)), (4, .lf (.ptr 2 0)), (5, .lf (.ptr 3 0)), (6, .lf (.d .bool)), (7, .lf (.d tI))], [.box 31 [.d (.sl Aq)], .box 131 [.d .str, .d .str, .d .bool], .box 31 [.row 4], .box 31 [.row 5], .row 167 Aq, .row 167 Aq]⟩, [(2, ⟨[.boxRow 4 0 167 Aq, .boxRow 5 0 167 Aq], [(3, .lf (.ptr 0 0)), (4, .lf (.ptr 1 0)), (5, .lf (.ptr 2 0)), (6, .lf (.d .bool))], [.box 131 [.d .str, .d .str, .d .bool], .box 31 [.row 3], .box 31 [.row 4], .row 167 Aq, .row 167 Aq]⟩)])]
noncomputable def co_spec_l4Change_5 : Code := (Ao (A8 Tryz.f165)).getD 0 .skip
def G3 (v6 : Bool) (v7 : Int) (b0_0 : List Pr2) (b1_0 : ByteArray) (b1_1 : ByteArray) (b1_2 : Bool) (r4 : List Pr2) (r5 : List Pr2) : Nat := ((b0_0.length : Int) - v7).toNat + 1
noncomputable def G4 {R : Type}  (NX : ((Bool) × (Int) × (List Pr2) × (ByteArray) × (ByteArray) × (Bool) × (List Pr2) × (List Pr2) × Unit) → Option R) (X2 : ((Bool) × (ByteArray) × (ByteArray) × (Bool) × (List Pr2) × (List Pr2) × Unit) → Option R) (v6 : Bool) (v7 : Int) (b0_0 : List Pr2) (b1_0 : ByteArray) (b1_1 : ByteArray) (b1_2 : Bool) (r4 : List Pr2) (r5 : List Pr2) : Option R :=
 bif decide (v7 < nI b0_0.length) then bif !v6 then bif decide (0 ≤ v7) then bif decide (v7 < nI b0_0.length) then bif !(Op.bytesLess (ByteArray.toList (b0_0.getD v7.toNat (ByteArray.mk #[], ByteArray.mk #[], ())).1) b1_0.toList || ByteArray.toList (b0_0.getD v7.toNat (ByteArray.mk #[], ByteArray.mk #[], ())).1 == b1_0.toList) then bif decide ((r5.length + [(b1_0, b1_1, ())].length) * 32 ≤ 140737488355328) then bif decide (0 ≤ v7) then bif decide (v7 < nI b0_0.length) then bif !ByteArray.toList (b0_0.getD v7.toNat (ByteArray.mk #[], ByteArray.mk #[], ())).1 == b1_0.toList then bif decide (0 ≤ v7) then bif decide (v7 < nI b0_0.length) then bif decide (((r5 ++ [(b1_0, b1_1, ())]).length + [b0_0.getD v7.toNat (ByteArray.mk #[], ByteArray.mk #[], ())].length) * 32 ≤ 140737488355328) then NX (true, IntKind.i64.wrap (v7 + 1), b0_0, b1_0, b1_1, b1_2, r4, r5 ++ [(b1_0, b1_1, ())] ++ [b0_0.getD v7.toNat (ByteArray.mk #[], ByteArray.mk #[], ())], ()) else none else none else none else NX (true, IntKind.i64.wrap (v7 + 1), b0_0, b1_0, b1_1, b1_2, r4, r5 ++ [(b1_0, b1_1, ())], ()) else none else none else none else bif decide (0 ≤ v7) then bif decide (v7 < nI b0_0.length) then bif !ByteArray.toList (b0_0.getD v7.toNat (ByteArray.mk #[], ByteArray.mk #[], ())).1 == b1_0.toList then bif decide (0 ≤ v7) then bif decide (v7 < nI b0_0.length) then bif decide ((r5.length + [b0_0.getD v7.toNat (ByteArray.mk #[], ByteArray.mk #[], ())].length) * 32 ≤ 140737488355328) then NX (v6, IntKind.i64.wrap (v7 + 1), b0_0, b1_0, b1_1, b1_2, r4, r5 ++ [b0_0.getD v7.toNat (ByteArray.mk #[], ByteArray.mk #[], ())], ()) else none else none else none else NX (v6, IntKind.i64.wrap (v7 + 1), b0_0, b1_0, b1_1, b1_2, r4, r5, ()) else none else none else none else none else bif decide (0 ≤ v7) then bif decide (v7 < nI b0_0.length) then bif !ByteArray.toList (b0_0.getD v7.toNat (ByteArray.mk #[], ByteArray.mk #[], ())).1 == b1_0.toList then bif decide (0 ≤ v7) then bif decide (v7 < nI b0_0.length) then bif decide ((r5.length + [b0_0.getD v7.toNat (ByteArray.mk #[], ByteArray.mk #[], ())].length) * 32 ≤ 140737488355328) then NX (v6, IntKind.i64.wrap (v7 + 1), b0_0, b1_0, b1_1, b1_2, r4, r5 ++ [b0_0.getD v7.toNat (ByteArray.mk #[], ByteArray.mk #[], ())], ()) else none else none else none else NX (v6, IntKind.i64.wrap (v7 + 1), b0_0, b1_0, b1_1, b1_2, r4, r5, ()) else none else none else X2 (v6, b1_0, b1_1, b1_2, r4, r5, ())
noncomputable def Cl : Nat → (Bool) → (Int) → (List Pr2) → (ByteArray) → (ByteArray) → (Bool) → (List Pr2) → (List Pr2) →  Option ((Bool) × (ByteArray) × (ByteArray) × (Bool) × (List Pr2) × (List Pr2) × Unit)
 | 0, _, _, _, _, _, _, _, _ => none
 | m + 1, v6, v7, b0_0, b1_0, b1_1, b1_2, r4, r5 => G4  (fun d => Cl m d.1 d.2.1 d.2.2.1 d.2.2.2.1 d.2.2.2.2.1 d.2.2.2.2.2.1 d.2.2.2.2.2.2.1 d.2.2.2.2.2.2.2.1) (fun d => some (d)) v6 v7 b0_0 b1_0 b1_1 b1_2 r4 r5
noncomputable def N4 (a0 : Stt) (a1 : Chg) : Option ((Stt × (Unit))) :=
 ((fun d => Cl (G3 d.1 d.2.1 d.2.2.1 d.2.2.2.1 d.2.2.2.2.1 d.2.2.2.2.2.1 d.2.2.2.2.2.2.1 d.2.2.2.2.2.2.2.1) d.1 d.2.1 d.2.2.1 d.2.2.2.1 d.2.2.2.2.1 d.2.2.2.2.2.1 d.2.2.2.2.2.2.1 d.2.2.2.2.2.2.2.1) (a1.2.2.1, 0, a0.1, a1.1, a1.2.1, a1.2.2.1, [], [], ())).bind fun val => bif !val.1 then bif decide ((val.2.2.2.2.2.1.length + [(val.2.1, val.2.2.1, ())].length) * 32 ≤ 140737488355328) then some ((val.2.2.2.2.2.1 ++ [(val.2.1, val.2.2.1, ())], ()), ()) else none else some (val.2.2.2.2.2, ())
theorem Aeo (a0 : Stt) (a1 : Chg) r (h : Jf a0 a1 = some r) : N4 a0 a1 = some ((r.1, ()), (())) := by
 unfold Jf at h
 split at h
 rotate_left
 ·cases h
 rename_i hlen
 cases h
 unfold N4
 have hL := E4 (xs := a0.1) zP (fun i (s : Bool × List Pr2) => i ≤ 1000000 ∧ s.2.length ≤ 2 * i) (fun _ p s => Qq a1.1 a1.2.1 p s) (g := fun m i s => Cl m s.1 i a0.1 a1.1 a1.2.1 a1.2.2.1 [] s.2) (ok := fun s => (s.1, a1.1, a1.2.1, a1.2.2.1, [], s.2, ())) (fun m i s hi hI => by
   show Cl (m + 1) s.1 i a0.1 a1.1 a1.2.1 a1.2.2.1 [] s.2 = _
   obtain ⟨d, out⟩ := s
   obtain ⟨h1, h2⟩ := hI
   simp only at h2 ⊢
   simp only [Cl, G4]
   have e1 : decide ((out.length + 1) * 32 ≤ 140737488355328) = true := decide_eq_true (by omega)
   have e2 : decide ((out.length + 1 + 1) * 32 ≤ 140737488355328) = true := decide_eq_true (by omega)
   rw [Ou hi, F2, wI (show i < 4611686018427387904 by omega), Int.toNat_natCast]
   simp only [cond_true, List.length_singleton, List.length_append, e1, e2]
   unfold Qq gtS bl
   show (bif !d then (bif !(Op.bytesLess (List.getD a0.1 i zP).1.toList a1.1.toList || (List.getD a0.1 i zP).1.toList == a1.1.toList) then _ else _) else _) = _
   cases d with
   | true =>
    simp only [Bool.not_true, Bool.false_and, cond_false]
    show (bif !((List.getD a0.1 i zP).1.toList == a1.1.toList) then _ else _) = _
    cases ((List.getD a0.1 i zP).1.toList == a1.1.toList) <;> rfl
   | false =>
    simp only [Bool.not_false, Bool.true_and, cond_true]
    cases hq : !(Op.bytesLess (List.getD a0.1 i zP).1.toList a1.1.toList || (List.getD a0.1 i zP).1.toList == a1.1.toList) with
    | true =>
     simp only [cond_true]
     show (bif !((List.getD a0.1 i zP).1.toList == a1.1.toList) then _ else _) = _
     cases ((List.getD a0.1 i zP).1.toList == a1.1.toList) <;> rfl
    | false =>
     simp only [cond_false]
     show (bif !((List.getD a0.1 i zP).1.toList == a1.1.toList) then _ else _) = _
     cases ((List.getD a0.1 i zP).1.toList == a1.1.toList) <;> rfl) (fun i s hi hI => ⟨by omega, by have := Akk a1.1 a1.2.1 (a0.1.getD i zP) s; omega⟩) (fun m s hI => by
   show Cl (m + 1) s.1 (a0.1.length : Int) a0.1 a1.1 a1.2.1 a1.2.2.1 [] s.2 = _
   simp only [Cl, G4]
   rw [I0]
   rfl) (G3 a1.2.2.1 0 a0.1 a1.1 a1.2.1 a1.2.2.1 [] []) 0 (a1.2.2.1, []) (by omega) (by simp [G3, nI]) ⟨by omega, Nat.le_refl _⟩
 have hE := Awr a1.1 a1.2.1 a0.1 0 (a1.2.2.1, [])
 have hB : (Eu (fun _ p s => Qq a1.1 a1.2.1 p s) 0 a0.1 (a1.2.2.1, [])).2.length ≤ 2 * a0.1.length := by
  have := T6 zP (fun i (s : Bool × List Pr2) => s.2.length ≤ 2 * i) (fun _ p s => Qq a1.1 a1.2.1 p s) (xs := a0.1) (fun i s hi hI => by have := Akk a1.1 a1.2.1 (a0.1.getD i zP) s; omega) a0.1.length 0 (a1.2.2.1, []) (by omega) (Nat.le_refl _)
  exact this
 rw [List.drop_zero] at hL
 refine Td hL ?_
 dsimp only
 generalize Eu (fun _ p s => Qq a1.1 a1.2.1 p s) 0 a0.1 (a1.2.2.1, []) = q at hE hB
 obtain ⟨d, out⟩ := q
 simp only at hB
 simp only [List.nil_append] at hE
 show _ = some ((Ly a1.1 a1.2.1 a1.2.2.1 a0.1, ()), ())
 rw [← hE]
 unfold As3
 have e1 : decide ((out.length + 1) * 32 ≤ 140737488355328) = true := decide_eq_true (by omega)
 cases d with
 | true => rfl
 | false =>
  simp only [Bool.not_false, cond_true, cond_false, List.length_singleton, e1]
noncomputable def Re {R : Type} (k : Kt R) := (Iz (pa_spec_l4Change 5) (.exit 0) 2 k)
noncomputable def Wx {R : Type} : Lt R pa_spec_l4Change := (Ef (pat := pa_spec_l4Change) 5 (fun d k => (Cl (G3 d.1 d.2.1 d.2.2.1 d.2.2.2.1 d.2.2.2.2.1 d.2.2.2.2.2.1 d.2.2.2.2.2.2.1 d.2.2.2.2.2.2.2.1) d.1 d.2.1 d.2.2.1 d.2.2.2.1 d.2.2.2.2.1 d.2.2.2.2.2.1 d.2.2.2.2.2.2.1 d.2.2.2.2.2.2.2.1).bind (Re k)) Fu)
theorem Us : As Tryz.prog ta_spec_l4Change := Au trivial
theorem s4 {R : Type} : Ay Tryz.prog R 73 0 pa_spec_l4Change Wx co_spec_l4Change_5 :=
 B6 (cfg := ⟨ta_spec_l4Change, 0, 73, pa_spec_l4Change⟩) 5 [] (fun NX X (d : (Bool) × (Int) × (List Pr2) × (ByteArray) × (ByteArray) × (Bool) × (List Pr2) × (List Pr2) × Unit) => G4  NX X d.1 d.2.1 d.2.2.1 d.2.2.2.1 d.2.2.2.2.1 d.2.2.2.2.2.1 d.2.2.2.2.2.2.1 d.2.2.2.2.2.2.2.1) (fun m d => Cl m d.1 d.2.1 d.2.2.1 d.2.2.2.1 d.2.2.2.2.1 d.2.2.2.2.2.1 d.2.2.2.2.2.2.1 d.2.2.2.2.2.2.2.1) (fun d => G3 d.1 d.2.1 d.2.2.1 d.2.2.2.1 d.2.2.2.2.1 d.2.2.2.2.2.1 d.2.2.2.2.2.2.1 d.2.2.2.2.2.2.2.1) Re Us trivial (fun f NX (d : (Bool) × (Int) × (List Pr2) × (ByteArray) × (ByteArray) × (Bool) × (List Pr2) × (List Pr2) × Unit) => by unfold G4; simp only [Am, Ap, Ah, Option.bind_assoc, Option.bind_none, Option.bind_some]) (fun _ _ _ => by kernel_rfl)
theorem Aep : Bo Tryz.prog 165 sd_spec_l4Change :=
 At (pat := pa_spec_l4Change) [co_spec_l4Change_5] Wx Us ⟨s4, trivial⟩ Tryz.func165 (de := fun x => N4 x.1 x.2.1) (fun x r h => Az (Aeo x.1 x.2.1) h) fun _ => by kernel_rfl
def Hv (s : Stt) (b : List Chg) : Stt × Int := Mc s b
def Amv : Sig := ⟨[.rd Py, .rd (.sl Du)], [some 1, none], [.own 167 Aq, .rd tI], [some 1, none]⟩
noncomputable def sd_spec_Apply : SD := ⟨Amv, fun x => some (((Hv x.1 x.2.1).1.1, (Hv x.1 x.2.1).2, ()), (()))⟩
noncomputable def ta_spec_Apply : Tb := tb [(73, sd_spec_ValidState), (79, sd_spec_ValidBatch), (127, sd_spec_l4Copy), (165, sd_spec_l4Change)]
def pa_spec_Apply : Nat → Pat × (Nat → Pat) := Fe [(6, ⟨[.sl 1 0 Du, .boxRow 4 0 167 Aq, .boxRow 6 0 167 Aq], [(1, .lf (.d (.sl Du))), (4, .lf (.ptr 0 0)), (6, .lf (.ptr 1 0)), (7, .lf (.d tI))], [.box 31 [.row 2], .box 31 [.row 3], .row 167 Aq, .row 167 Aq]⟩, [(2, ⟨[.boxRow 4 0 167 Aq, .boxRow 6 0 167 Aq], [(4, .lf (.ptr 0 0)), (6, .lf (.ptr 1 0))], [.box 31 [.row 2], .box 31 [.row 3], .row 167 Aq, .row 167 Aq]⟩)])]
noncomputable def co_spec_Apply_6 : Code := (Ao (A8 Tryz.f80)).getD 0 .skip
def Hh (v1 : List Chg) (v7 : Int) (r2 : List Pr2) (r3 : List Pr2) : Nat := ((v1.length : Int) - v7).toNat + 1
noncomputable def Jg {R : Type}  (NX : ((List Chg) × (Int) × (List Pr2) × (List Pr2) × Unit) → Option R) (X2 : ((List Pr2) × (List Pr2) × Unit) → Option R) (v1 : List Chg) (v7 : Int) (r2 : List Pr2) (r3 : List Pr2) : Option R :=
 bif decide (v7 < nI v1.length) then bif decide (0 ≤ v7) then bif decide (v7 < nI v1.length) then ((Jf (r3, ()) (v1.getD v7.toNat (ByteArray.mk #[], ByteArray.mk #[], false, ()))).bind fun val => some (val, ())).bind fun val => NX (v1, IntKind.i64.wrap (v7 + 1), r2, val.1) else none else none else X2 (r2, r3, ())
noncomputable def C7 : Nat → (List Chg) → (Int) → (List Pr2) → (List Pr2) →  Option ((List Pr2) × (List Pr2) × Unit)
 | 0, _, _, _, _ => none
 | m + 1, v1, v7, r2, r3 => Jg  (fun d => C7 m d.1 d.2.1 d.2.2.1 d.2.2.2.1) (fun d => some (d)) v1 v7 r2 r3
noncomputable def Tg (a0 : Stt) (a1 : List Chg) : Option ((((List Pr2) × (Int) × Unit) × (Unit))) :=
 bif !Ht a0 then some (([], 1, ()), ()) else bif !Hs a1 then some (([], 1, ()), ()) else ((H3 a0).bind fun val => some (val, ())).bind fun val => ((fun d => C7 (Hh d.1 d.2.1 d.2.2.1 d.2.2.2.1) d.1 d.2.1 d.2.2.1 d.2.2.2.1) (a1, 0, [], val.1)).bind fun val => bif decide (nI val.2.1.length > 100) then some (([], 2, ()), ()) else some ((val.2.1, 0, ()), ())
theorem Aql (b : List Chg) (xs : List Pr2) (hb : b.length ≤ 20) (hx : xs.length ≤ 100) : C7 (Hh b 0 [] xs) b 0 [] xs = some ([], Mb xs b, ()) := by
 have hL := E4 (xs := b) zC (fun i (l : List Pr2) => i ≤ 20 ∧ l.length ≤ 100 + i) (fun _ c l => Akh c l) (g := fun m i l => C7 m b i [] l) (ok := fun l => ([], l, ())) (fun m i l hi hI => by
   show C7 (m + 1) b i [] l = _
   simp only [C7, Jg]
   rw [Ou hi, F2, wI (show i < 4611686018427387904 by omega), Int.toNat_natCast]
   simp only [cond_true]
   have e1 : Jf (l, ()) ((List.getD b i zC).1, (List.getD b i zC).2.1, (List.getD b i zC).2.2.1, ()) = some (Akh (List.getD b i zC) l, ()) := if_pos (by show l.length ≤ 1000000; omega)
   refine (congrArg (fun y => Option.bind (Option.bind y _) _) e1).trans ?_
   rfl) (fun i l hi hI => ⟨by omega, by have := A1b (b.getD i zC) l; omega⟩) (fun m l hI => by
   show C7 (m + 1) b (b.length : Int) [] l = _
   simp only [C7, Jg]
   rw [I0]
   rfl) (Hh b 0 [] xs) 0 xs (by omega) (by simp [Hh, nI]) ⟨by omega, by omega⟩
 rw [List.drop_zero] at hL
 exact hL
theorem Amw (a0 : Stt) (a1 : List Chg) : Tg a0 a1 = some (((Hv a0 a1).1.1, (Hv a0 a1).2, ()), (())) := by
 unfold Tg Hv Mc
 show (bif !Bf a0 then _ else bif !Bd a1 then _ else _) = _
 cases hv : Bf a0 with
 | false => rfl
 | true =>
  cases hb : Bd a1 with
  | false => rfl
  | true =>
   simp only [Bool.not_true, cond_false]
   have hl := Fh hv
   have hb2 := Hb (Cj hb).1
   have e1 : H3 (a0.1, ()) = some (a0.1, ()) := if_pos (Nat.le_trans hl (by decide))
   rw [e1]
   simp only [Option.bind_some]
   refine Td (Aql a1 a0.1 (by omega) hl) ?_
   dsimp only
   by_cases q : (Mb a0.1 a1).length > 100
   ·rw [decide_eq_true (show nI (Mb a0.1 a1).length > 100 by simp only [nI]; omega), decide_eq_true q]
    rfl
   ·rw [decide_eq_false (show ¬ nI (Mb a0.1 a1).length > 100 by simp only [nI]; omega), decide_eq_false q]
    rfl
noncomputable def Wy {R : Type} (k : Kt R) := (Iz (pa_spec_Apply 6) (.exit 0) 2 k)
noncomputable def Ab1 {R : Type} : Lt R pa_spec_Apply := (Ef (pat := pa_spec_Apply) 6 (fun d k => (C7 (Hh d.1 d.2.1 d.2.2.1 d.2.2.2.1) d.1 d.2.1 d.2.2.1 d.2.2.2.1).bind (Wy k)) Fu)
theorem g6 : As Tryz.prog ta_spec_Apply := Au ⟨Q2, Q0, Yt, Aep, trivial⟩
theorem Ahi {R : Type} : Ay Tryz.prog R 37 0 pa_spec_Apply Ab1 co_spec_Apply_6 :=
 B6 (cfg := ⟨ta_spec_Apply, 0, 37, pa_spec_Apply⟩) 6 [] (fun NX X d => Jg  NX X d.1 d.2.1 d.2.2.1 d.2.2.2.1) (fun m d => C7 m d.1 d.2.1 d.2.2.1 d.2.2.2.1) (fun d => Hh d.1 d.2.1 d.2.2.1 d.2.2.2.1) Wy g6 trivial (fun f NX d => by unfold Jg; simp only [Am, Ap, Ah, Option.bind_assoc, Option.bind_none, Option.bind_some]) (fun _ _ _ => by kernel_rfl)
theorem Amx : Bo Tryz.prog 80 sd_spec_Apply :=
 At (pat := pa_spec_Apply) [co_spec_Apply_6] Ab1 g6 ⟨Ahi, trivial⟩ Tryz.func80 (de := fun x => Tg x.1 x.2.1) (fun x r h => (Amw x.1 x.2.1).trans h) fun _ => by kernel_rfl
def G5 (s : ByteArray) : ByteArray × ByteArray × Bool := ((Av s).1, bif (Av s).2.2 then (Av s).2.1 else ⟨#[]⟩, (Av s).2.2)
def Ahj : Sig := ⟨[.rd .str], [none], [.rd .str, .rd .str, .rd .bool], [none, none, none]⟩
noncomputable def sd_spec_l4Piece : SD := ⟨Ahj, fun x => some (((G5 x.1).1, (G5 x.1).2.1, (G5 x.1).2.2, ()), (()))⟩
noncomputable def Pf (a0 : ByteArray) : Option ((((ByteArray) × (ByteArray) × (Bool) × Unit) × (Unit))) :=
 bif decide (nI a0.size < 1) then some ((ByteArray.mk #[], ByteArray.mk #[], false, ()), ()) else bif decide (0 < nI a0.size) then bif decide (nI a0.size < IntKind.i64.wrap (1 + IntKind.i64.wrap (Af a0 0))) then some ((ByteArray.mk #[], ByteArray.mk #[], false, ()), ()) else bif decide (0 < nI a0.size) then bif decide (1 ≤ IntKind.i64.wrap (1 + IntKind.i64.wrap (Af a0 0))) then bif decide (IntKind.i64.wrap (1 + IntKind.i64.wrap (Af a0 0)) ≤ nI a0.size) then bif decide (0 ≤ IntKind.i64.wrap (1 + IntKind.i64.wrap (Af a0 0))) then bif decide (IntKind.i64.wrap (1 + IntKind.i64.wrap (Af a0 0)) ≤ nI a0.size) then some ((Ag a0 1 (IntKind.i64.wrap (1 + IntKind.i64.wrap (Af a0 0))), Ag a0 (IntKind.i64.wrap (1 + IntKind.i64.wrap (Af a0 0))) (nI a0.size), true, ()), ()) else none else none else none else none else none else none
theorem Ahk (a0 : ByteArray) : Pf a0 = some (((G5 a0).1, (G5 a0).2.1, (G5 a0).2.2, ()), (())) := by
 unfold Pf G5 Av
 obtain ⟨b0, b1⟩ := Fw a0 0
 have hw : IntKind.i64.wrap (1 + IntKind.i64.wrap (Af a0 0)) = 1 + Af a0 0 := by
  rw [Ad (n := Af a0 0) (by omega) (by omega), Ad (by omega) (by omega)]
 rw [hw]
 by_cases h0 : (a0.size : Int) < 1
 ·rw [if_pos (Or.inl h0), decide_eq_true (show nI a0.size < 1 from h0)]
  rfl
 ·rw [decide_eq_false (show ¬ nI a0.size < 1 from h0), decide_eq_true (show 0 < nI a0.size by simp only [nI]; omega)]
  by_cases h1 : (a0.size : Int) < 1 + Af a0 0
  ·rw [if_pos (Or.inr h1), decide_eq_true (show nI a0.size < 1 + Af a0 0 from h1)]
   rfl
  ·rw [if_neg (by omega), decide_eq_false (show ¬ nI a0.size < 1 + Af a0 0 from h1), decide_eq_true (show 1 ≤ 1 + Af a0 0 by omega), decide_eq_true (show 0 ≤ 1 + Af a0 0 by omega), decide_eq_true (show 1 + Af a0 0 ≤ nI a0.size by simp only [nI]; omega)]
   rfl
theorem Ahl : Bo Tryz.prog 215 sd_spec_l4Piece :=
 At (pat := Cr) [] Fu (Au (l := []) trivial) trivial Tryz.func215 (de := fun x => Pf x.1) (fun x r h => (Ahk x.1).trans h) fun _ => by kernel_rfl
def Dc (s : ByteArray) : List Chg × Bool := Ajx s
def Km (v0 v5 : ByteArray) (r0 : List Chg) : Nat := 22
def Ab2 : Sig := ⟨[.rd .str], [none], [.own 131 Du, .rd .bool], [none, none]⟩
noncomputable def sd_spec_ReadBatch : SD := ⟨Ab2, fun x => some (((Dc x.1).1, (Dc x.1).2, ()), (()))⟩
noncomputable def ta_spec_ReadBatch : Tb := tb [(82, sd_spec_FormBatch), (215, sd_spec_l4Piece)]
def pa_spec_ReadBatch : Nat → Pat × (Nat → Pat) := Fe [(4, ⟨[.row 4 0 131 Du], [(0, .lf (.d .str)), (4, .lf (.row 0)), (5, .lf (.d .str))], [.row 131 Du]⟩, [(2, ⟨[.row 4 0 131 Du], [(0, .lf (.d .str)), (4, .lf (.row 0))], [.row 131 Du]⟩), (1, ⟨[.row 2 0 131 Du], [(2, .lf (.row 0)), (3, .lf (.d .bool))], [.row 131 Du]⟩)])]
noncomputable def co_spec_ReadBatch_4 : Code := (Ao (A8 Tryz.f183)).getD 0 .skip
noncomputable def H8 {R : Type}  (NX : ((ByteArray) × (ByteArray) × (List Chg) × Unit) → Option R) (X2 : ((ByteArray) × (List Chg) × Unit) → Option R) (X1 : ((Bool) × (List Chg) × Unit) → Option R) (v0 : ByteArray) (v5 : ByteArray) (r0 : List Chg) : Option R :=
 bif decide (nI v5.size > 0) then bif decide (nI r0.length ≤ 20) then bif decide (0 < nI v5.size) then bif decide (1 ≤ nI v5.size) then bif !(Av (Ag v5 1 (nI v5.size))).2.2 then X1 (false, [], ()) else bif !Af v5 0 == 1 then bif !(Av (bif (Av (Ag v5 1 (nI v5.size))).2.2 then (Av (Ag v5 1 (nI v5.size))).2.1 else ByteArray.mk #[])).2.2 then X1 (false, [], ()) else bif decide ((r0.length + [((Av (Ag v5 1 (nI v5.size))).1, (Av (bif (Av (Ag v5 1 (nI v5.size))).2.2 then (Av (Ag v5 1 (nI v5.size))).2.1 else ByteArray.mk #[])).1, Af v5 0 == 1, ())].length) * 40 ≤ 140737488355328) then NX (v0, bif (Av (bif (Av (Ag v5 1 (nI v5.size))).2.2 then (Av (Ag v5 1 (nI v5.size))).2.1 else ByteArray.mk #[])).2.2 then (Av (bif (Av (Ag v5 1 (nI v5.size))).2.2 then (Av (Ag v5 1 (nI v5.size))).2.1 else ByteArray.mk #[])).2.1 else ByteArray.mk #[], r0 ++ [((Av (Ag v5 1 (nI v5.size))).1, (Av (bif (Av (Ag v5 1 (nI v5.size))).2.2 then (Av (Ag v5 1 (nI v5.size))).2.1 else ByteArray.mk #[])).1, Af v5 0 == 1, ())], ()) else none else bif decide ((r0.length + [((Av (Ag v5 1 (nI v5.size))).1, ByteArray.mk #[], Af v5 0 == 1, ())].length) * 40 ≤ 140737488355328) then NX (v0, bif (Av (Ag v5 1 (nI v5.size))).2.2 then (Av (Ag v5 1 (nI v5.size))).2.1 else ByteArray.mk #[], r0 ++ [((Av (Ag v5 1 (nI v5.size))).1, ByteArray.mk #[], Af v5 0 == 1, ())], ()) else none else none else none else X2 (v0, r0, ()) else X2 (v0, r0, ())
noncomputable def Er : Nat → (ByteArray) → (ByteArray) → (List Chg) →  Option (((ByteArray) × (List Chg) × Unit) ⊕ ((Bool) × (List Chg) × Unit))
 | 0, _, _, _ => none
 | m + 1, v0, v5, r0 => H8  (fun d => Er m d.1 d.2.1 d.2.2.1) (fun d => some (.inl (d))) (fun d => some (.inr (d))) v0 v5 r0
noncomputable def Mx (a0 : ByteArray) : Option ((((List Chg) × (Bool) × Unit) × (Unit))) :=
 ((fun d => Er (Km d.1 d.2.1 d.2.2.1) d.1 d.2.1 d.2.2.1) (a0, a0, [], ())).bind fun val => Cs (fun val => bif nI (ByteArray.size val.1) == 0 then some (([], false, ()), ()) else bif !(D7 val.2.1).toList == ByteArray.toList val.1 then some (([], false, ()), ()) else some ((val.2.1, true, ()), ())) (fun val => some ((val.2.1, val.1, ()), ())) val
def A3t (s0 : ByteArray) (o : Option (List Chg × ByteArray)) : (ByteArray × List Chg × Unit) ⊕ (Bool × List Chg × Unit) := match o with
 | some (b, t) => .inl (s0, b, ())
 | none => .inr (false, [], ())
theorem Ali (s0 : ByteArray) : ∀ (f m : Nat) (r : List Chg) (s : ByteArray), r.length + f = 22 → f ≤ m → 1 ≤ f → Er m s0 s r = some (A3t s0 (Lc false f r s))
 | 0, _, _, _, _, _, h => by omega
 | f + 1, 0, _, _, _, h, _ => by omega
 | f + 1, m + 1, r, s, hf, hm, _ => by
  simp only [Er, H8, Lc]
  by_cases hs : s.size > 0
  ·rw [decide_eq_true (show nI s.size > 0 by simp only [nI]; omega), decide_eq_true hs]
   by_cases hr : r.length ≤ 20
   ·rw [decide_eq_true (show nI r.length ≤ 20 by simp only [nI]; omega), decide_eq_true hr, decide_eq_true (show 1 ≤ nI s.size by simp only [nI]; omega)]
    unfold Afu
    generalize Av (Ag s 1 (nI s.size)) = p
    simp only [List.length_singleton, Bool.false_and, cond_true, Bool.and_self, cond_false]
    rw [decide_eq_true (show (r.length + 1) * 40 ≤ 140737488355328 by omega)]
    obtain ⟨k, t, o⟩ := p
    cases o
    ·rfl
    ·by_cases h2 : Af s 0 = 1
     ·rw [h2]
      exact Ali s0 f m (r ++ [(k, ByteArray.mk #[], true, ())]) t (by rw [List.length_append, List.length_singleton]; omega) (by omega) (by omega)
     ·have h3 : (Af s 0 == 1) = false := beq_eq_false_iff_ne.2 h2
      rw [h3]
      simp only [Bool.not_true, Bool.not_false, cond_false, cond_true]
      generalize Av t = q
      obtain ⟨v, u, o⟩ := q
      cases o
      ·rfl
      ·exact Ali s0 f m (r ++ [(k, v, false, ())]) u (by rw [List.length_append, List.length_singleton]; omega) (by omega) (by omega)
   ·rw [decide_eq_false (show ¬ nI r.length ≤ 20 by simp only [nI]; omega), decide_eq_false hr]
    rfl
  ·rw [decide_eq_false (show ¬ nI s.size > 0 by simp only [nI]; omega), decide_eq_false hs]
   rfl
theorem Ab3 (a0 : ByteArray) : Mx a0 = some (((Dc a0).1, (Dc a0).2, ()), (())) := by
 unfold Mx Dc Ajx
 have hL := Ali a0 22 22 [] a0 rfl (Nat.le_refl _) (by omega)
 refine Tk hL ?_
 cases Lc false 22 [] a0 with
 | none => rfl
 | some bt =>
  obtain ⟨b, t⟩ := bt
  show (bif nI a0.size == 0 then _ else (bif !(ByteArray.toList (Ff b) == ByteArray.toList a0) then _ else _)) = _
  have e : (nI a0.size == 0) = (a0.size == 0) := by
   by_cases q : a0.size = 0
   ·rw [q]; rfl
   ·rw [beq_eq_false_iff_ne.2 q, beq_eq_false_iff_ne.2 (show nI a0.size ≠ 0 by simp only [nI]; omega)]
  rw [e]
  simp only
  cases (a0.size == 0) <;> cases (ByteArray.toList (Ff b) == ByteArray.toList a0) <;> rfl
noncomputable def Pn {R : Type} (k : Kt R) := (Cs (Iz (pa_spec_ReadBatch 4) (.exit 0) 2 k) (Iz (pa_spec_ReadBatch 4) .ret 1 k))
noncomputable def Ut {R : Type} : Lt R pa_spec_ReadBatch := (Ef (pat := pa_spec_ReadBatch) 4 (fun d k => (Er (Km d.1 d.2.1 d.2.2.1) d.1 d.2.1 d.2.2.1).bind (Pn k)) Fu)
theorem Sq : As Tryz.prog ta_spec_ReadBatch := Au ⟨Mr, Ahl, trivial⟩
theorem Zv {R : Type} : Ay Tryz.prog R 70 0 pa_spec_ReadBatch Ut co_spec_ReadBatch_4 :=
 B6 (cfg := ⟨ta_spec_ReadBatch, 0, 70, pa_spec_ReadBatch⟩) 4 [] (fun NX X d => H8  NX (fun e => X (.inl (e))) (fun e => X (.inr (e))) d.1 d.2.1 d.2.2.1) (fun m d => Er m d.1 d.2.1 d.2.2.1) (fun d => Km d.1 d.2.1 d.2.2.1) Pn Sq trivial (fun f NX d => by unfold H8; simp only [Am, Ap, Ah, Option.bind_assoc, Option.bind_none, Option.bind_some]) (fun _ _ _ => by kernel_rfl)
theorem Ab4 : Bo Tryz.prog 183 sd_spec_ReadBatch :=
 At (pat := pa_spec_ReadBatch) [co_spec_ReadBatch_4] Ut Sq ⟨Zv, trivial⟩ Tryz.func183 (de := fun x => Mx x.1) (fun x r h => (Ab3 x.1).trans h) fun _ => by kernel_rfl
def Kx (es : List ByteArray) : Option (Stt × Bool) := if es.length ≤ 1073741824 then some (Awx es) else none
def Alj : Sig := ⟨[.rd (.sl .str)], [none], [.own 167 Aq, .rd .bool], [some 1, none]⟩
noncomputable def sd_spec_l6Fold : SD := ⟨Alj, fun x => (Kx x.1).bind fun r => some ((r.1.1, r.2, ()), (()))⟩
noncomputable def ta_spec_l6Fold : Tb := tb [(80, sd_spec_Apply), (183, sd_spec_ReadBatch)]
def pa_spec_l6Fold : Nat → Pat × (Nat → Pat) := Fe [(4, ⟨[.sl 0 0 .str, .boxRow 2 0 167 Aq, .boxRow 4 0 167 Aq], [(0, .lf (.d (.sl .str))), (2, .lf (.ptr 0 0)), (4, .lf (.ptr 1 0)), (5, .lf (.d tI))], [.box 31 [.row 2], .box 31 [.row 3], .row 167 Aq, .row 167 Aq]⟩, [(2, ⟨[.boxRow 2 0 167 Aq, .boxRow 4 0 167 Aq], [(2, .lf (.ptr 0 0)), (4, .lf (.ptr 1 0))], [.box 31 [.row 2], .box 31 [.row 3], .row 167 Aq, .row 167 Aq]⟩), (1, ⟨[.boxRow 2 0 167 Aq], [(2, .lf (.ptr 0 0)), (3, .lf (.d .bool))], [.box 31 [.row 1], .row 167 Aq]⟩)])]
noncomputable def co_spec_l6Fold_4 : Code := (Ao (A8 Tryz.f107)).getD 0 .skip
def Ir (v0 : List ByteArray) (v5 : Int) (r2 : List Pr2) (r3 : List Pr2) : Nat := ((v0.length : Int) - v5).toNat + 1
noncomputable def Is {R : Type}  (NX : ((List ByteArray) × (Int) × (List Pr2) × (List Pr2) × Unit) → Option R) (X2 : ((List Pr2) × (List Pr2) × Unit) → Option R) (X1 : ((Bool) × (List Pr2) × Unit) → Option R) (v0 : List ByteArray) (v5 : Int) (r2 : List Pr2) (r3 : List Pr2) : Option R :=
 bif decide (v5 < nI v0.length) then bif decide (0 ≤ v5) then bif decide (v5 < nI v0.length) then bif !(Dc (v0.getD v5.toNat (ByteArray.mk #[]))).2 then X1 (false, [], ()) else bif (Hv (r3, ()) (Dc (v0.getD v5.toNat (ByteArray.mk #[]))).1).2 != 0 then X1 (false, [], ()) else NX (v0, IntKind.i64.wrap (v5 + 1), r2, (Hv (r3, ()) (Dc (v0.getD v5.toNat (ByteArray.mk #[]))).1).1) else none else none else X2 (r2, r3, ())
noncomputable def Dd : Nat → (List ByteArray) → (Int) → (List Pr2) → (List Pr2) →  Option (((List Pr2) × (List Pr2) × Unit) ⊕ ((Bool) × (List Pr2) × Unit))
 | 0, _, _, _, _ => none
 | m + 1, v0, v5, r2, r3 => Is  (fun d => Dd m d.1 d.2.1 d.2.2.1 d.2.2.2.1) (fun d => some (.inl (d))) (fun d => some (.inr (d))) v0 v5 r2 r3
noncomputable def Rf (a0 : List ByteArray) : Option ((((List Pr2) × (Bool) × Unit) × (Unit))) :=
 ((fun d => Dd (Ir d.1 d.2.1 d.2.2.1 d.2.2.2.1) d.1 d.2.1 d.2.2.1 d.2.2.2.1) (a0, 0, [], [], ())).bind fun val => Cs (fun val => some ((val.2.1, true, ()), ())) (fun val => some ((val.2.1, val.1, ()), ())) val
theorem Alk (a0 : List ByteArray) r (h : Kx a0 = some r) : Rf a0 = some ((r.1.1, r.2, ()), (())) := by
 unfold Kx at h
 split at h
 rotate_left
 ·cases h
 rename_i hlen
 cases h
 unfold Rf Awx
 have hL := Adw (xs := a0) (g := fun m i r => Dd m a0 i [] r) (ok := fun r => .inl ([], r, ())) (bad := .inr (false, [], ())) (fun m i r hi => by
   show Dd (m + 1) a0 i [] r = _
   simp only [Dd, Is]
   rw [Ou hi, F2, wI (show i < 4611686018427387904 by omega), Int.toNat_natCast]
   simp only [cond_true, Dc, Hv, Axt]
   rfl) (fun m r => by
   show Dd (m + 1) a0 (a0.length : Int) [] r = _
   simp only [Dd, Is]
   rw [I0]
   rfl) (Ir a0 0 [] []) 0 [] (by omega) (by simp [Ir, nI])
 rw [List.drop_zero] at hL
 refine Td hL ?_
 show Cs _ _ (match Ns a0 zSs with | some st => _ | none => _) = _
 cases Ns a0 zSs <;> rfl
noncomputable def Uu {R : Type} (k : Kt R) := (Cs (Iz (pa_spec_l6Fold 4) (.exit 0) 2 k) (Iz (pa_spec_l6Fold 4) .ret 1 k))
noncomputable def g7 {R : Type} : Lt R pa_spec_l6Fold := (Ef (pat := pa_spec_l6Fold) 4 (fun d k => (Dd (Ir d.1 d.2.1 d.2.2.1 d.2.2.2.1) d.1 d.2.1 d.2.2.1 d.2.2.2.1).bind (Uu k)) Fu)
theorem Yu : As Tryz.prog ta_spec_l6Fold := Au ⟨Amx, Ab4, trivial⟩
theorem Aeq {R : Type} : Ay Tryz.prog R 39 0 pa_spec_l6Fold g7 co_spec_l6Fold_4 :=
 B6 (cfg := ⟨ta_spec_l6Fold, 0, 39, pa_spec_l6Fold⟩) 4 [] (fun NX X d => Is  NX (fun e => X (.inl (e))) (fun e => X (.inr (e))) d.1 d.2.1 d.2.2.1 d.2.2.2.1) (fun m d => Dd m d.1 d.2.1 d.2.2.1 d.2.2.2.1) (fun d => Ir d.1 d.2.1 d.2.2.1 d.2.2.2.1) Uu Yu trivial (fun f NX d => by unfold Is; simp only [Am, Ap, Ah, Option.bind_assoc, Option.bind_none, Option.bind_some]) (fun _ _ _ => by kernel_rfl)
theorem All : Bo Tryz.prog 107 sd_spec_l6Fold :=
 At (pat := pa_spec_l6Fold) [co_spec_l6Fold_4] g7 Yu ⟨Aeq, trivial⟩ Tryz.func107 (de := fun x => Rf x.1) (fun x r h => Az (Alk x.1) h) fun _ => by kernel_rfl
def Rg (e : ByteArray) (life first w : Int) : Option (List ByteArray) := if e.size ≤ 1048576 then some (Adn e life first w) else none
def Jn (v1 v2 v3 : Int) (v10 : List ByteArray) (v11 : Int) (r0 : List ByteArray) : Nat := (nI v10.length - v11).toNat + 1
def Ate : Sig := ⟨[.rd .str, .rd tI, .rd tI, .rd tI], [none, none, none, none], [.own 9 .str], [none]⟩
noncomputable def sd_spec_Cut : SD := ⟨Ate, fun x => (Rg x.1 x.2.1 x.2.2.1 x.2.2.2.1).bind fun r => some ((r, ()), (()))⟩
noncomputable def ta_spec_Cut : Tb := tb [(69, sd_spec_l1Width), (76, sd_spec_FormPage), (166, sd_spec_l3Parts)]
def pa_spec_Cut : Nat → Pat × (Nat → Pat) := Fe [(9, ⟨[.row 9 0 9 .str, .sl 10 0 .str], [(1, .lf (.d tI)), (2, .lf (.d tI)), (3, .lf (.d tI)), (9, .lf (.row 0)), (10, .lf (.d (.sl .str))), (11, .lf (.d tI))], [.row 9 .str]⟩, [(2, ⟨[.row 9 0 9 .str], [(9, .lf (.row 0))], [.row 9 .str]⟩)])]
noncomputable def co_spec_Cut_9 : Code := (Ao (A8 Tryz.f81)).getD 0 .skip
noncomputable def Ky {R : Type}  (NX : ((Int) × (Int) × (Int) × (List ByteArray) × (Int) × (List ByteArray) × Unit) → Option R) (X2 : ((List ByteArray) × Unit) → Option R) (v1 : Int) (v2 : Int) (v3 : Int) (v10 : List ByteArray) (v11 : Int) (r0 : List ByteArray) : Option R :=
 bif decide (v11 < nI v10.length) then bif v11 == IntKind.i64.wrap (nI v10.length - 1) then bif decide (0 ≤ v11) then bif decide (v11 < nI v10.length) then bif decide ((r0.length + [Cb (2, v1, IntKind.i64.wrap (v2 + v11), v10.getD v11.toNat (ByteArray.mk #[]), ()) v3].length) * 16 ≤ 140737488355328) then NX (v1, v2, v3, v10, IntKind.i64.wrap (v11 + 1), r0 ++ [Cb (2, v1, IntKind.i64.wrap (v2 + v11), v10.getD v11.toNat (ByteArray.mk #[]), ()) v3], ()) else none else none else none else bif decide (0 ≤ v11) then bif decide (v11 < nI v10.length) then bif decide ((r0.length + [Cb (1, v1, IntKind.i64.wrap (v2 + v11), v10.getD v11.toNat (ByteArray.mk #[]), ()) v3].length) * 16 ≤ 140737488355328) then NX (v1, v2, v3, v10, IntKind.i64.wrap (v11 + 1), r0 ++ [Cb (1, v1, IntKind.i64.wrap (v2 + v11), v10.getD v11.toNat (ByteArray.mk #[]), ()) v3], ()) else none else none else none else X2 (r0, ())
noncomputable def Ec : Nat → (Int) → (Int) → (Int) → (List ByteArray) → (Int) → (List ByteArray) →  Option ((List ByteArray) × Unit)
 | 0, _, _, _, _, _, _ => none
 | m + 1, v1, v2, v3, v10, v11, r0 => Ky  (fun d => Ec m d.1 d.2.1 d.2.2.1 d.2.2.2.1 d.2.2.2.2.1 d.2.2.2.2.2.1) (fun d => some (d)) v1 v2 v3 v10 v11 r0
noncomputable def Yv (a0 : ByteArray) (a1 : Int) (a2 : Int) (a3 : Int) : Option ((((List ByteArray) × Unit) × (Unit))) :=
 Option.bind (bif decide (a3 ≥ 1) then some ((decide (a3 ≤ 8), ()), ()) else some ((false, ()), ())) fun val => bif !val.1.1 then some (([], ()), ()) else bif decide (a1 < 1) then some (([], ()), ()) else bif decide (a1 > 60000) then some (([], ()), ()) else bif decide (a2 < 1) then some (([], ()), ()) else bif decide (a2 > 1000000000) then some (([], ()), ()) else ((Gu a0 a3).bind fun val => some ((val, ()), ())).bind fun val => bif decide (nI (List.length val.1.1) > IntKind.i64.wrap (IntKind.i64.wrap (1000000000 - a2) + 1)) then some (([], ()), ()) else ((fun d => Ec (Jn d.1 d.2.1 d.2.2.1 d.2.2.2.1 d.2.2.2.2.1 d.2.2.2.2.2.1) d.1 d.2.1 d.2.2.1 d.2.2.2.1 d.2.2.2.2.1 d.2.2.2.2.2.1) (a1, a2, a3, val.1.1, 0, [], ())).bind fun val => some (val, ())
theorem Atf (a0 : ByteArray) (a1 : Int) (a2 : Int) (a3 : Int) r (h : Rg a0 a1 a2 a3 = some r) : Yv a0 a1 a2 a3 = some ((r, ()), (())) := by
 unfold Rg at h
 split at h
 rotate_left
 ·cases h
 rename_i hc
 cases h
 unfold Yv Adn
 refine Tk (wid a3) ?_
 rw [Aj2 a1]
 show (bif !E9 a3 1 8 then _ else (bif E9 a1 1 60000 then _ else _)) = _
 cases hw : E9 a3 1 8 with
 | false => rfl
 | true =>
  obtain ⟨k1, k2⟩ := Hb hw
  have hp := n0 (s := a0) hw
  have hP : Eg a0.size a3 = ((Ci a0 a3).length : Int) := by unfold Eg; rw [hw]; exact hp.symm
  have hlen : (Ci a0 a3).length ≤ a0.size + 1 := X5 _ _ _
  have h1 : 1 ≤ (Ci a0 a3).length := by
   have : (1 : Int) ≤ ((Ci a0 a3).length : Int) := by rw [hp]; split <;> omega
   omega
  have n1 : Gu a0 a3 = some (Ci a0 a3) := if_pos ⟨by omega, k1, k2⟩
  rw [hP]
  cases hl : E9 a1 1 60000 with
  | false => rfl
  | true =>
   by_cases q1 : a2 < 1
   ·rw [decide_eq_true q1, decide_eq_false (show ¬ 1 ≤ a2 by omega)]; rfl
   ·rw [decide_eq_false q1, decide_eq_true (show 1 ≤ a2 by omega)]
    by_cases q0 : a2 > 1000000000
    ·rw [decide_eq_true q0, decide_eq_false (show ¬ a2 ≤ 1000000000 - ((Ci a0 a3).length : Int) + 1 by omega)]; rfl
    ·rw [decide_eq_false q0]
     refine Tk (Tk n1 rfl) ?_
     show (bif decide (nI (Ci a0 a3).length > IntKind.i64.wrap (IntKind.i64.wrap (1000000000 - a2) + 1)) then _ else (Option.bind (Ec (Jn a1 a2 a3 (Ci a0 a3) 0 []) a1 a2 a3 (Ci a0 a3) 0 []) _)) = _
     rw [Ad (n := 1000000000 - a2) (by omega) (by omega), Ad (n := 1000000000 - a2 + 1) (by omega) (by omega)]
     simp only [nI]
     by_cases q2 : a2 > 1000000000 - ((Ci a0 a3).length : Int) + 1
     ·rw [decide_eq_true (show ((Ci a0 a3).length : Int) > 1000000000 - a2 + 1 by omega), decide_eq_false (show ¬ a2 ≤ 1000000000 - ((Ci a0 a3).length : Int) + 1 by omega)]; rfl
     ·rw [decide_eq_false (show ¬ ((Ci a0 a3).length : Int) > 1000000000 - a2 + 1 by omega), decide_eq_true (show a2 ≤ 1000000000 - ((Ci a0 a3).length : Int) + 1 by omega)]
      generalize Ci a0 a3 = P at *
      have hL := Zl P.length (fun i r => r.length = i) (fun i r => r ++ [Db ((if i + 1 = P.length then 2 else 1), a1, a2 + (i : Int), P.getD i z0, ()) a3]) (g := fun m i r => Ec m a1 a2 a3 P i r) (ok := fun r => (r, ())) (fun m i r hi hr => by
       show Ec (m + 1) a1 a2 a3 P i r = _
       simp only [Ec, Ky]
       rw [Ou hi, F2, wI (show i < 4611686018427387904 by omega), Int.toNat_natCast, Ad (n := a2 + (i : Int)) (by omega) (by omega), Ad (n := nI P.length - 1) (by simp only [nI]; omega) (by simp only [nI]; omega), List.length_singleton, List.length_singleton, decide_eq_true (show (r.length + 1) * 16 ≤ 140737488355328 by omega)]
       by_cases e : i + 1 = P.length
       ·rw [show ((i : Int) == nI P.length - 1) = true from beq_iff_eq.2 (by simp only [nI]; omega), if_pos e]; rfl
       ·rw [show ((i : Int) == nI P.length - 1) = false from beq_eq_false_iff_ne.2 (by simp only [nI]; omega), if_neg e]; rfl) (fun m r _ => by
       show Ec (m + 1) a1 a2 a3 P (P.length : Int) r = _
       simp only [Ec, Ky]
       rw [I0]
       rfl) (fun i r hi hr => by rw [List.length_append, List.length_singleton, hr]) P.length (Jn a1 a2 a3 P 0 []) 0 [] (by omega) (by simp only [Jn, nI]; omega) rfl
      rw [Aoi (fun i => Db ((if i + 1 = P.length then 2 else 1), a1, a2 + (i : Int), P.getD i z0, ()) a3), List.nil_append, ← R8] at hL
      exact Tk hL rfl
noncomputable def g8 {R : Type} (k : Kt R) := (Iz (pa_spec_Cut 9) (.exit 0) 2 k)
noncomputable def Alm {R : Type} : Lt R pa_spec_Cut := (Ef (pat := pa_spec_Cut) 9 (fun d k => (Ec (Jn d.1 d.2.1 d.2.2.1 d.2.2.2.1 d.2.2.2.2.1 d.2.2.2.2.2.1) d.1 d.2.1 d.2.2.1 d.2.2.2.1 d.2.2.2.2.1 d.2.2.2.2.2.1).bind (g8 k)) Fu)
theorem Agb : As Tryz.prog ta_spec_Cut := Au ⟨Ev, Im, Wt, trivial⟩
theorem Amy {R : Type} : Ay Tryz.prog R 71 0 pa_spec_Cut Alm co_spec_Cut_9 :=
 B6 (cfg := ⟨ta_spec_Cut, 0, 71, pa_spec_Cut⟩) 9 [] (fun NX X d => Ky  NX X d.1 d.2.1 d.2.2.1 d.2.2.2.1 d.2.2.2.2.1 d.2.2.2.2.2.1) (fun m d => Ec m d.1 d.2.1 d.2.2.1 d.2.2.2.1 d.2.2.2.2.1 d.2.2.2.2.2.1) (fun d => Jn d.1 d.2.1 d.2.2.1 d.2.2.2.1 d.2.2.2.2.1 d.2.2.2.2.2.1) g8 Agb trivial (fun f NX d => by unfold Ky; simp only [Am, Ap, Ah, Option.bind_assoc, Option.bind_none, Option.bind_some]) (fun _ _ _ => by kernel_rfl)
theorem Atg : Bo Tryz.prog 81 sd_spec_Cut :=
 At (pat := pa_spec_Cut) [co_spec_Cut_9] Alm Agb ⟨Amy, trivial⟩ Tryz.func81 (de := fun x => Yv x.1 x.2.1 x.2.2.1 x.2.2.2.1) (fun x r h => Az (Atf x.1 x.2.1 x.2.2.1 x.2.2.2.1) h) fun _ => by kernel_rfl
def Kz (s : Sto) : Option Don := if Ap2 s then some (Af2 s) else none
def Aln : Sig := ⟨[.rd m7], [some 10], [.rd tI, .rd tI, .rd tI, .rd tI, .rd tI, .rd tI, .rd tI, .rd tI, .rd tI, .rd tI, .own 167 Aq, .own 126 B7], [some 12]⟩
noncomputable def sd_spec_l6Move : SD := ⟨Aln, fun x => (Kz x.1).bind fun r => some ((r.1, r.2.1.1, r.2.1.2.1, r.2.1.2.2.1, r.2.1.2.2.2.1.1, r.2.1.2.2.2.1.2.1, r.2.1.2.2.2.1.2.2.1, r.2.1.2.2.2.1.2.2.2.1, r.2.1.2.2.2.2.1, r.2.1.2.2.2.2.2.1, r.2.1.2.2.2.2.2.2.1.1, r.2.2.1, ()), (()))⟩
noncomputable def ta_spec_l6Move : Tb := tb [(55, sd_spec_Halves), (76, sd_spec_FormPage), (81, sd_spec_Cut), (82, sd_spec_FormBatch), (83, sd_spec_l6Put), (84, sd_spec_l6Base), (127, sd_spec_l4Copy), (140, sd_spec_Snapshot), (184, sd_spec_RootPage)]
def pa_spec_l6Move : Nat → Pat × (Nat → Pat) := Fe [(11, ⟨[.row 6 0 126 B7, .sl 7 0 (.sl Du), .boxSl 1 9 Aq, .boxRow 2 10 167 Aq, .boxRow 2 11 126 B7], [(1, .lf (.ptr 0 0)), (2, .lf (.ptr 1 0)), (4, .lf (.ptr 2 0)), (5, .lf (.d tI)), (6, .lf (.row 3)), (7, .lf (.d (.sl (.sl Du)))), (8, .lf (.d tI)), (9, .lf (.d tI))], [.box 33 [.d tI, .d tI, .d tI, .d tI, .d tI, .d tI, .d tI, .d tI, .d tI, .d (.sl Aq)], .box 56 [.d tI, .d tI, .d tI, .d tI, .d tI, .d tI, .d tI, .d tI, .d tI, .d tI, .row 4, .row 5], .box 28 [.d tI, .d tI, .d tI, .d tI], .row 126 B7, .row 167 Aq, .row 126 B7]⟩, [(2, ⟨[.row 6 0 126 B7, .boxSl 1 9 Aq, .boxRow 2 10 167 Aq, .boxRow 2 11 126 B7], [(1, .lf (.ptr 0 0)), (2, .lf (.ptr 1 0)), (4, .lf (.ptr 2 0)), (6, .lf (.row 3)), (8, .lf (.d tI))], [.box 33 [.d tI, .d tI, .d tI, .d tI, .d tI, .d tI, .d tI, .d tI, .d tI, .d (.sl Aq)], .box 56 [.d tI, .d tI, .d tI, .d tI, .d tI, .d tI, .d tI, .d tI, .d tI, .d tI, .row 4, .row 5], .box 28 [.d tI, .d tI, .d tI, .d tI], .row 126 B7, .row 167 Aq, .row 126 B7]⟩)]), (15, ⟨[.row 6 0 126 B7, .sl 7 0 (.sl Du), .sl 10 0 .str, .boxSl 1 9 Aq, .boxRow 2 10 167 Aq, .boxRow 2 11 126 B7], [(1, .lf (.ptr 0 0)), (2, .lf (.ptr 1 0)), (4, .lf (.ptr 2 0)), (5, .lf (.d tI)), (6, .lf (.row 3)), (7, .lf (.d (.sl (.sl Du)))), (8, .lf (.d tI)), (9, .lf (.d tI)), (10, .lf (.d (.sl .str))), (11, .lf (.d tI))], [.box 33 [.d tI, .d tI, .d tI, .d tI, .d tI, .d tI, .d tI, .d tI, .d tI, .d (.sl Aq)], .box 56 [.d tI, .d tI, .d tI, .d tI, .d tI, .d tI, .d tI, .d tI, .d tI, .d tI, .row 4, .row 5], .box 28 [.d tI, .d tI, .d tI, .d tI], .row 126 B7, .row 167 Aq, .row 126 B7]⟩, [(4, ⟨[.row 6 0 126 B7, .sl 7 0 (.sl Du), .boxSl 1 9 Aq, .boxRow 2 10 167 Aq, .boxRow 2 11 126 B7], [(1, .lf (.ptr 0 0)), (2, .lf (.ptr 1 0)), (4, .lf (.ptr 2 0)), (5, .lf (.d tI)), (6, .lf (.row 3)), (7, .lf (.d (.sl (.sl Du)))), (8, .lf (.d tI)), (9, .lf (.d tI))], [.box 33 [.d tI, .d tI, .d tI, .d tI, .d tI, .d tI, .d tI, .d tI, .d tI, .d (.sl Aq)], .box 56 [.d tI, .d tI, .d tI, .d tI, .d tI, .d tI, .d tI, .d tI, .d tI, .d tI, .row 4, .row 5], .box 28 [.d tI, .d tI, .d tI, .d tI], .row 126 B7, .row 167 Aq, .row 126 B7]⟩)])]
noncomputable def co_spec_l6Move_11 : Code := (Ao (A8 Tryz.f108)).getD 0 .skip
noncomputable def co_spec_l6Move_15 : Code := (Ao co_spec_l6Move_11).getD 0 .skip
def Hw (v5 : Int) (v7 : List (List Chg)) (v8 : Int) (v9 : Int) (v10 : List ByteArray) (v11 : Int) (b0_0 : Int) (b0_1 : Int) (b0_2 : Int) (b0_3 : Int) (b0_4 : Int) (b0_5 : Int) (b0_6 : Int) (b0_7 : Int) (b0_8 : Int) (b0_9 : List Pr2) (b1_0 : Int) (b1_1 : Int) (b1_2 : Int) (b1_3 : Int) (b1_4 : Int) (b1_5 : Int) (b1_6 : Int) (b1_7 : Int) (b1_8 : Int) (b1_9 : Int) (b2_0 : Int) (b2_1 : Int) (b2_2 : Int) (b2_3 : Int) (r3 : List Opn) (r4 : List Pr2) (r5 : List Opn) : Nat := ((v10.length : Int) - v11).toNat + 1
noncomputable def Hx {R : Type}  (NX : ((Int) × (List (List Chg)) × (Int) × (Int) × (List ByteArray) × (Int) × (Int) × (Int) × (Int) × (Int) × (Int) × (Int) × (Int) × (Int) × (Int) × (List Pr2) × (Int) × (Int) × (Int) × (Int) × (Int) × (Int) × (Int) × (Int) × (Int) × (Int) × (Int) × (Int) × (Int) × (Int) × (List Opn) × (List Pr2) × (List Opn) × Unit) → Option R) (X4 : ((Int) × (List (List Chg)) × (Int) × (Int) × (Int) × (Int) × (Int) × (Int) × (Int) × (Int) × (Int) × (Int) × (Int) × (List Pr2) × (Int) × (Int) × (Int) × (Int) × (Int) × (Int) × (Int) × (Int) × (Int) × (Int) × (Int) × (Int) × (Int) × (Int) × (List Opn) × (List Pr2) × (List Opn) × Unit) → Option R) (v5 : Int) (v7 : List (List Chg)) (v8 : Int) (v9 : Int) (v10 : List ByteArray) (v11 : Int) (b0_0 : Int) (b0_1 : Int) (b0_2 : Int) (b0_3 : Int) (b0_4 : Int) (b0_5 : Int) (b0_6 : Int) (b0_7 : Int) (b0_8 : Int) (b0_9 : List Pr2) (b1_0 : Int) (b1_1 : Int) (b1_2 : Int) (b1_3 : Int) (b1_4 : Int) (b1_5 : Int) (b1_6 : Int) (b1_7 : Int) (b1_8 : Int) (b1_9 : Int) (b2_0 : Int) (b2_1 : Int) (b2_2 : Int) (b2_3 : Int) (r3 : List Opn) (r4 : List Pr2) (r5 : List Opn) : Option R :=
 bif decide (v11 < nI v10.length) then bif decide (0 ≤ v11) then bif decide (v11 < nI v10.length) then bif decide ((r3.length + [(false, IntKind.i64.wrap (v5 + v8), v10.getD v11.toNat (ByteArray.mk #[]), ())].length) * 32 ≤ 140737488355328) then NX (v5, v7, IntKind.i64.wrap (v8 + 1), v9, v10, IntKind.i64.wrap (v11 + 1), b0_0, b0_1, b0_2, b0_3, b0_4, b0_5, b0_6, b0_7, b0_8, b0_9, b1_0, b1_1, b1_2, b1_3, b1_4, b1_5, b1_6, b1_7, b1_8, b1_9, b2_0, b2_1, b2_2, b2_3, r3 ++ [(false, IntKind.i64.wrap (v5 + v8), v10.getD v11.toNat (ByteArray.mk #[]), ())], r4, r5, ()) else none else none else none else X4 (v5, v7, v8, v9, b0_0, b0_1, b0_2, b0_3, b0_4, b0_5, b0_6, b0_7, b0_8, b0_9, b1_0, b1_1, b1_2, b1_3, b1_4, b1_5, b1_6, b1_7, b1_8, b1_9, b2_0, b2_1, b2_2, b2_3, r3, r4, r5, ())
noncomputable def Cw : Nat → (Int) → (List (List Chg)) → (Int) → (Int) → (List ByteArray) → (Int) → (Int) → (Int) → (Int) → (Int) → (Int) → (Int) → (Int) → (Int) → (Int) → (List Pr2) → (Int) → (Int) → (Int) → (Int) → (Int) → (Int) → (Int) → (Int) → (Int) → (Int) → (Int) → (Int) → (Int) → (Int) → (List Opn) → (List Pr2) → (List Opn) →  Option ((Int) × (List (List Chg)) × (Int) × (Int) × (Int) × (Int) × (Int) × (Int) × (Int) × (Int) × (Int) × (Int) × (Int) × (List Pr2) × (Int) × (Int) × (Int) × (Int) × (Int) × (Int) × (Int) × (Int) × (Int) × (Int) × (Int) × (Int) × (Int) × (Int) × (List Opn) × (List Pr2) × (List Opn) × Unit)
 | 0, _, _, _, _, _, _, _, _, _, _, _, _, _, _, _, _, _, _, _, _, _, _, _, _, _, _, _, _, _, _, _, _, _ => none
 | m + 1, v5, v7, v8, v9, v10, v11, b0_0, b0_1, b0_2, b0_3, b0_4, b0_5, b0_6, b0_7, b0_8, b0_9, b1_0, b1_1, b1_2, b1_3, b1_4, b1_5, b1_6, b1_7, b1_8, b1_9, b2_0, b2_1, b2_2, b2_3, r3, r4, r5 => Hx  (fun d => Cw m d.1 d.2.1 d.2.2.1 d.2.2.2.1 d.2.2.2.2.1 d.2.2.2.2.2.1 d.2.2.2.2.2.2.1 d.2.2.2.2.2.2.2.1 d.2.2.2.2.2.2.2.2.1 d.2.2.2.2.2.2.2.2.2.1 d.2.2.2.2.2.2.2.2.2.2.1 d.2.2.2.2.2.2.2.2.2.2.2.1 d.2.2.2.2.2.2.2.2.2.2.2.2.1 d.2.2.2.2.2.2.2.2.2.2.2.2.2.1 d.2.2.2.2.2.2.2.2.2.2.2.2.2.2.1 d.2.2.2.2.2.2.2.2.2.2.2.2.2.2.2.1 d.2.2.2.2.2.2.2.2.2.2.2.2.2.2.2.2.1 d.2.2.2.2.2.2.2.2.2.2.2.2.2.2.2.2.2.1 d.2.2.2.2.2.2.2.2.2.2.2.2.2.2.2.2.2.2.1 d.2.2.2.2.2.2.2.2.2.2.2.2.2.2.2.2.2.2.2.1 d.2.2.2.2.2.2.2.2.2.2.2.2.2.2.2.2.2.2.2.2.1 d.2.2.2.2.2.2.2.2.2.2.2.2.2.2.2.2.2.2.2.2.2.1 d.2.2.2.2.2.2.2.2.2.2.2.2.2.2.2.2.2.2.2.2.2.2.1 d.2.2.2.2.2.2.2.2.2.2.2.2.2.2.2.2.2.2.2.2.2.2.2.1 d.2.2.2.2.2.2.2.2.2.2.2.2.2.2.2.2.2.2.2.2.2.2.2.2.1 d.2.2.2.2.2.2.2.2.2.2.2.2.2.2.2.2.2.2.2.2.2.2.2.2.2.1 d.2.2.2.2.2.2.2.2.2.2.2.2.2.2.2.2.2.2.2.2.2.2.2.2.2.2.1 d.2.2.2.2.2.2.2.2.2.2.2.2.2.2.2.2.2.2.2.2.2.2.2.2.2.2.2.1 d.2.2.2.2.2.2.2.2.2.2.2.2.2.2.2.2.2.2.2.2.2.2.2.2.2.2.2.2.1 d.2.2.2.2.2.2.2.2.2.2.2.2.2.2.2.2.2.2.2.2.2.2.2.2.2.2.2.2.2.1 d.2.2.2.2.2.2.2.2.2.2.2.2.2.2.2.2.2.2.2.2.2.2.2.2.2.2.2.2.2.2.1 d.2.2.2.2.2.2.2.2.2.2.2.2.2.2.2.2.2.2.2.2.2.2.2.2.2.2.2.2.2.2.2.1 d.2.2.2.2.2.2.2.2.2.2.2.2.2.2.2.2.2.2.2.2.2.2.2.2.2.2.2.2.2.2.2.2.1) (fun d => some (d)) v5 v7 v8 v9 v10 v11 b0_0 b0_1 b0_2 b0_3 b0_4 b0_5 b0_6 b0_7 b0_8 b0_9 b1_0 b1_1 b1_2 b1_3 b1_4 b1_5 b1_6 b1_7 b1_8 b1_9 b2_0 b2_1 b2_2 b2_3 r3 r4 r5
noncomputable def Hy (d : (Int) × (List (List Chg)) × (Int) × (Int) × (List ByteArray) × (Int) × (Int) × (Int) × (Int) × (Int) × (Int) × (Int) × (Int) × (Int) × (Int) × (List Pr2) × (Int) × (Int) × (Int) × (Int) × (Int) × (Int) × (Int) × (Int) × (Int) × (Int) × (Int) × (Int) × (Int) × (Int) × (List Opn) × (List Pr2) × (List Opn) × Unit) : Option ((Int) × (List (List Chg)) × (Int) × (Int) × (Int) × (Int) × (Int) × (Int) × (Int) × (Int) × (Int) × (Int) × (Int) × (List Pr2) × (Int) × (Int) × (Int) × (Int) × (Int) × (Int) × (Int) × (Int) × (Int) × (Int) × (Int) × (Int) × (Int) × (Int) × (List Opn) × (List Pr2) × (List Opn) × Unit) := Cw (Hw d.1 d.2.1 d.2.2.1 d.2.2.2.1 d.2.2.2.2.1 d.2.2.2.2.2.1 d.2.2.2.2.2.2.1 d.2.2.2.2.2.2.2.1 d.2.2.2.2.2.2.2.2.1 d.2.2.2.2.2.2.2.2.2.1 d.2.2.2.2.2.2.2.2.2.2.1 d.2.2.2.2.2.2.2.2.2.2.2.1 d.2.2.2.2.2.2.2.2.2.2.2.2.1 d.2.2.2.2.2.2.2.2.2.2.2.2.2.1 d.2.2.2.2.2.2.2.2.2.2.2.2.2.2.1 d.2.2.2.2.2.2.2.2.2.2.2.2.2.2.2.1 d.2.2.2.2.2.2.2.2.2.2.2.2.2.2.2.2.1 d.2.2.2.2.2.2.2.2.2.2.2.2.2.2.2.2.2.1 d.2.2.2.2.2.2.2.2.2.2.2.2.2.2.2.2.2.2.1 d.2.2.2.2.2.2.2.2.2.2.2.2.2.2.2.2.2.2.2.1 d.2.2.2.2.2.2.2.2.2.2.2.2.2.2.2.2.2.2.2.2.1 d.2.2.2.2.2.2.2.2.2.2.2.2.2.2.2.2.2.2.2.2.2.1 d.2.2.2.2.2.2.2.2.2.2.2.2.2.2.2.2.2.2.2.2.2.2.1 d.2.2.2.2.2.2.2.2.2.2.2.2.2.2.2.2.2.2.2.2.2.2.2.1 d.2.2.2.2.2.2.2.2.2.2.2.2.2.2.2.2.2.2.2.2.2.2.2.2.1 d.2.2.2.2.2.2.2.2.2.2.2.2.2.2.2.2.2.2.2.2.2.2.2.2.2.1 d.2.2.2.2.2.2.2.2.2.2.2.2.2.2.2.2.2.2.2.2.2.2.2.2.2.2.1 d.2.2.2.2.2.2.2.2.2.2.2.2.2.2.2.2.2.2.2.2.2.2.2.2.2.2.2.1 d.2.2.2.2.2.2.2.2.2.2.2.2.2.2.2.2.2.2.2.2.2.2.2.2.2.2.2.2.1 d.2.2.2.2.2.2.2.2.2.2.2.2.2.2.2.2.2.2.2.2.2.2.2.2.2.2.2.2.2.1 d.2.2.2.2.2.2.2.2.2.2.2.2.2.2.2.2.2.2.2.2.2.2.2.2.2.2.2.2.2.2.1 d.2.2.2.2.2.2.2.2.2.2.2.2.2.2.2.2.2.2.2.2.2.2.2.2.2.2.2.2.2.2.2.1 d.2.2.2.2.2.2.2.2.2.2.2.2.2.2.2.2.2.2.2.2.2.2.2.2.2.2.2.2.2.2.2.2.1) d.1 d.2.1 d.2.2.1 d.2.2.2.1 d.2.2.2.2.1 d.2.2.2.2.2.1 d.2.2.2.2.2.2.1 d.2.2.2.2.2.2.2.1 d.2.2.2.2.2.2.2.2.1 d.2.2.2.2.2.2.2.2.2.1 d.2.2.2.2.2.2.2.2.2.2.1 d.2.2.2.2.2.2.2.2.2.2.2.1 d.2.2.2.2.2.2.2.2.2.2.2.2.1 d.2.2.2.2.2.2.2.2.2.2.2.2.2.1 d.2.2.2.2.2.2.2.2.2.2.2.2.2.2.1 d.2.2.2.2.2.2.2.2.2.2.2.2.2.2.2.1 d.2.2.2.2.2.2.2.2.2.2.2.2.2.2.2.2.1 d.2.2.2.2.2.2.2.2.2.2.2.2.2.2.2.2.2.1 d.2.2.2.2.2.2.2.2.2.2.2.2.2.2.2.2.2.2.1 d.2.2.2.2.2.2.2.2.2.2.2.2.2.2.2.2.2.2.2.1 d.2.2.2.2.2.2.2.2.2.2.2.2.2.2.2.2.2.2.2.2.1 d.2.2.2.2.2.2.2.2.2.2.2.2.2.2.2.2.2.2.2.2.2.1 d.2.2.2.2.2.2.2.2.2.2.2.2.2.2.2.2.2.2.2.2.2.2.1 d.2.2.2.2.2.2.2.2.2.2.2.2.2.2.2.2.2.2.2.2.2.2.2.1 d.2.2.2.2.2.2.2.2.2.2.2.2.2.2.2.2.2.2.2.2.2.2.2.2.1 d.2.2.2.2.2.2.2.2.2.2.2.2.2.2.2.2.2.2.2.2.2.2.2.2.2.1 d.2.2.2.2.2.2.2.2.2.2.2.2.2.2.2.2.2.2.2.2.2.2.2.2.2.2.1 d.2.2.2.2.2.2.2.2.2.2.2.2.2.2.2.2.2.2.2.2.2.2.2.2.2.2.2.1 d.2.2.2.2.2.2.2.2.2.2.2.2.2.2.2.2.2.2.2.2.2.2.2.2.2.2.2.2.1 d.2.2.2.2.2.2.2.2.2.2.2.2.2.2.2.2.2.2.2.2.2.2.2.2.2.2.2.2.2.1 d.2.2.2.2.2.2.2.2.2.2.2.2.2.2.2.2.2.2.2.2.2.2.2.2.2.2.2.2.2.2.1 d.2.2.2.2.2.2.2.2.2.2.2.2.2.2.2.2.2.2.2.2.2.2.2.2.2.2.2.2.2.2.2.1 d.2.2.2.2.2.2.2.2.2.2.2.2.2.2.2.2.2.2.2.2.2.2.2.2.2.2.2.2.2.2.2.2.1
def Fz (v5 : Int) (v7 : List (List Chg)) (v8 : Int) (v9 : Int) (b0_0 : Int) (b0_1 : Int) (b0_2 : Int) (b0_3 : Int) (b0_4 : Int) (b0_5 : Int) (b0_6 : Int) (b0_7 : Int) (b0_8 : Int) (b0_9 : List Pr2) (b1_0 : Int) (b1_1 : Int) (b1_2 : Int) (b1_3 : Int) (b1_4 : Int) (b1_5 : Int) (b1_6 : Int) (b1_7 : Int) (b1_8 : Int) (b1_9 : Int) (b2_0 : Int) (b2_1 : Int) (b2_2 : Int) (b2_3 : Int) (r3 : List Opn) (r4 : List Pr2) (r5 : List Opn) : Nat := ((v7.length : Int) - v9).toNat + 1
noncomputable def Hz {R : Type} (LO15 : ((Int) × (List (List Chg)) × (Int) × (Int) × (List ByteArray) × (Int) × (Int) × (Int) × (Int) × (Int) × (Int) × (Int) × (Int) × (Int) × (Int) × (List Pr2) × (Int) × (Int) × (Int) × (Int) × (Int) × (Int) × (Int) × (Int) × (Int) × (Int) × (Int) × (Int) × (Int) × (Int) × (List Opn) × (List Pr2) × (List Opn) × Unit) → Option ((Int) × (List (List Chg)) × (Int) × (Int) × (Int) × (Int) × (Int) × (Int) × (Int) × (Int) × (Int) × (Int) × (Int) × (List Pr2) × (Int) × (Int) × (Int) × (Int) × (Int) × (Int) × (Int) × (Int) × (Int) × (Int) × (Int) × (Int) × (Int) × (Int) × (List Opn) × (List Pr2) × (List Opn) × Unit)) (NX : ((Int) × (List (List Chg)) × (Int) × (Int) × (Int) × (Int) × (Int) × (Int) × (Int) × (Int) × (Int) × (Int) × (Int) × (List Pr2) × (Int) × (Int) × (Int) × (Int) × (Int) × (Int) × (Int) × (Int) × (Int) × (Int) × (Int) × (Int) × (Int) × (Int) × (List Opn) × (List Pr2) × (List Opn) × Unit) → Option R) (X2 : ((Int) × (Int) × (Int) × (Int) × (Int) × (Int) × (Int) × (Int) × (Int) × (Int) × (List Pr2) × (Int) × (Int) × (Int) × (Int) × (Int) × (Int) × (Int) × (Int) × (Int) × (Int) × (Int) × (Int) × (Int) × (Int) × (List Opn) × (List Pr2) × (List Opn) × Unit) → Option R) (v5 : Int) (v7 : List (List Chg)) (v8 : Int) (v9 : Int) (b0_0 : Int) (b0_1 : Int) (b0_2 : Int) (b0_3 : Int) (b0_4 : Int) (b0_5 : Int) (b0_6 : Int) (b0_7 : Int) (b0_8 : Int) (b0_9 : List Pr2) (b1_0 : Int) (b1_1 : Int) (b1_2 : Int) (b1_3 : Int) (b1_4 : Int) (b1_5 : Int) (b1_6 : Int) (b1_7 : Int) (b1_8 : Int) (b1_9 : Int) (b2_0 : Int) (b2_1 : Int) (b2_2 : Int) (b2_3 : Int) (r3 : List Opn) (r4 : List Pr2) (r5 : List Opn) : Option R :=
 bif decide (v9 < nI v7.length) then bif decide (0 ≤ v9) then bif decide (v9 < nI v7.length) then ((Rg (D7 (v7.getD v9.toNat [])) b0_2 (IntKind.i64.wrap (b2_2 + v8)) b0_0).bind fun val => some ((val, ()), ())).bind fun val => (LO15 (v5, v7, v8, v9, val.1.1, 0, b0_0, b0_1, b0_2, b0_3, b0_4, b0_5, b0_6, b0_7, b0_8, b0_9, b1_0, b1_1, b1_2, b1_3, b1_4, b1_5, b1_6, b1_7, b1_8, b1_9, b2_0, b2_1, b2_2, b2_3, r3, r4, r5, ())).bind fun val => NX (val.1, val.2.1, val.2.2.1, IntKind.i64.wrap (val.2.2.2.1 + 1), val.2.2.2.2.1, val.2.2.2.2.2.1, val.2.2.2.2.2.2.1, val.2.2.2.2.2.2.2.1, val.2.2.2.2.2.2.2.2.1, val.2.2.2.2.2.2.2.2.2.1, val.2.2.2.2.2.2.2.2.2.2.1, val.2.2.2.2.2.2.2.2.2.2.2.1, val.2.2.2.2.2.2.2.2.2.2.2.2.1, val.2.2.2.2.2.2.2.2.2.2.2.2.2.1, val.2.2.2.2.2.2.2.2.2.2.2.2.2.2.1, val.2.2.2.2.2.2.2.2.2.2.2.2.2.2.2.1, val.2.2.2.2.2.2.2.2.2.2.2.2.2.2.2.2.1, val.2.2.2.2.2.2.2.2.2.2.2.2.2.2.2.2.2.1, val.2.2.2.2.2.2.2.2.2.2.2.2.2.2.2.2.2.2.1, val.2.2.2.2.2.2.2.2.2.2.2.2.2.2.2.2.2.2.2.1, val.2.2.2.2.2.2.2.2.2.2.2.2.2.2.2.2.2.2.2.2.1, val.2.2.2.2.2.2.2.2.2.2.2.2.2.2.2.2.2.2.2.2.2.1, val.2.2.2.2.2.2.2.2.2.2.2.2.2.2.2.2.2.2.2.2.2.2.1, val.2.2.2.2.2.2.2.2.2.2.2.2.2.2.2.2.2.2.2.2.2.2.2.1, val.2.2.2.2.2.2.2.2.2.2.2.2.2.2.2.2.2.2.2.2.2.2.2.2.1, val.2.2.2.2.2.2.2.2.2.2.2.2.2.2.2.2.2.2.2.2.2.2.2.2.2.1, val.2.2.2.2.2.2.2.2.2.2.2.2.2.2.2.2.2.2.2.2.2.2.2.2.2.2.1, (Ju (4, Pv.lf (Pe.ptr 2 0)).2 (Ju (2, Pv.lf (Pe.ptr 1 0)).2 (Ju (1, Pv.lf (Pe.ptr 0 0)).2 val).2).2).2.2.2.2.2.2.2.2.2.2.2.2.2.2.2.2.2.2.2.2.2.2.2.2.2.2.2.2.1, (Ju (7, Pv.lf (Pe.d (Ty.str.pair (Ty.str.pair (Ty.bool.pair Ty.unit))).sl.sl)).2 (Ju (6, Pv.lf (Pe.row 3)).2 (Ju (5, Pv.lf (Pe.d (Ty.int IntKind.i64))).2 (Ju (4, Pv.lf (Pe.ptr 2 0)).2 (Ju (2, Pv.lf (Pe.ptr 1 0)).2 (Ju (1, Pv.lf (Pe.ptr 0 0)).2 val).2).2).2).2).2).2.2.2.2.2.2.2.2.2.2.2.2.2.2.2.2.2.2.2.2.2.2.2.2.2.2.2.1, (Qi ((pa_spec_l6Move 15).2 4).cs val).2.2.2.2.2.2.2.2.2.2.2.2.2.2.2.2.2.2.2.2.2.2.2.2.2.2) else none else none else X2 (v8, b0_0, b0_1, b0_2, b0_3, b0_4, b0_5, b0_6, b0_7, b0_8, b0_9, b1_0, b1_1, b1_2, b1_3, b1_4, b1_5, b1_6, b1_7, b1_8, b1_9, b2_0, b2_1, b2_2, b2_3, r3, r4, r5, ())
noncomputable def Ch : Nat → (Int) → (List (List Chg)) → (Int) → (Int) → (Int) → (Int) → (Int) → (Int) → (Int) → (Int) → (Int) → (Int) → (Int) → (List Pr2) → (Int) → (Int) → (Int) → (Int) → (Int) → (Int) → (Int) → (Int) → (Int) → (Int) → (Int) → (Int) → (Int) → (Int) → (List Opn) → (List Pr2) → (List Opn) →  Option ((Int) × (Int) × (Int) × (Int) × (Int) × (Int) × (Int) × (Int) × (Int) × (Int) × (List Pr2) × (Int) × (Int) × (Int) × (Int) × (Int) × (Int) × (Int) × (Int) × (Int) × (Int) × (Int) × (Int) × (Int) × (Int) × (List Opn) × (List Pr2) × (List Opn) × Unit)
 | 0, _, _, _, _, _, _, _, _, _, _, _, _, _, _, _, _, _, _, _, _, _, _, _, _, _, _, _, _, _, _, _ => none
 | m + 1, v5, v7, v8, v9, b0_0, b0_1, b0_2, b0_3, b0_4, b0_5, b0_6, b0_7, b0_8, b0_9, b1_0, b1_1, b1_2, b1_3, b1_4, b1_5, b1_6, b1_7, b1_8, b1_9, b2_0, b2_1, b2_2, b2_3, r3, r4, r5 => Hz Hy (fun d => Ch m d.1 d.2.1 d.2.2.1 d.2.2.2.1 d.2.2.2.2.1 d.2.2.2.2.2.1 d.2.2.2.2.2.2.1 d.2.2.2.2.2.2.2.1 d.2.2.2.2.2.2.2.2.1 d.2.2.2.2.2.2.2.2.2.1 d.2.2.2.2.2.2.2.2.2.2.1 d.2.2.2.2.2.2.2.2.2.2.2.1 d.2.2.2.2.2.2.2.2.2.2.2.2.1 d.2.2.2.2.2.2.2.2.2.2.2.2.2.1 d.2.2.2.2.2.2.2.2.2.2.2.2.2.2.1 d.2.2.2.2.2.2.2.2.2.2.2.2.2.2.2.1 d.2.2.2.2.2.2.2.2.2.2.2.2.2.2.2.2.1 d.2.2.2.2.2.2.2.2.2.2.2.2.2.2.2.2.2.1 d.2.2.2.2.2.2.2.2.2.2.2.2.2.2.2.2.2.2.1 d.2.2.2.2.2.2.2.2.2.2.2.2.2.2.2.2.2.2.2.1 d.2.2.2.2.2.2.2.2.2.2.2.2.2.2.2.2.2.2.2.2.1 d.2.2.2.2.2.2.2.2.2.2.2.2.2.2.2.2.2.2.2.2.2.1 d.2.2.2.2.2.2.2.2.2.2.2.2.2.2.2.2.2.2.2.2.2.2.1 d.2.2.2.2.2.2.2.2.2.2.2.2.2.2.2.2.2.2.2.2.2.2.2.1 d.2.2.2.2.2.2.2.2.2.2.2.2.2.2.2.2.2.2.2.2.2.2.2.2.1 d.2.2.2.2.2.2.2.2.2.2.2.2.2.2.2.2.2.2.2.2.2.2.2.2.2.1 d.2.2.2.2.2.2.2.2.2.2.2.2.2.2.2.2.2.2.2.2.2.2.2.2.2.2.1 d.2.2.2.2.2.2.2.2.2.2.2.2.2.2.2.2.2.2.2.2.2.2.2.2.2.2.2.1 d.2.2.2.2.2.2.2.2.2.2.2.2.2.2.2.2.2.2.2.2.2.2.2.2.2.2.2.2.1 d.2.2.2.2.2.2.2.2.2.2.2.2.2.2.2.2.2.2.2.2.2.2.2.2.2.2.2.2.2.1 d.2.2.2.2.2.2.2.2.2.2.2.2.2.2.2.2.2.2.2.2.2.2.2.2.2.2.2.2.2.2.1) (fun d => some (d)) v5 v7 v8 v9 b0_0 b0_1 b0_2 b0_3 b0_4 b0_5 b0_6 b0_7 b0_8 b0_9 b1_0 b1_1 b1_2 b1_3 b1_4 b1_5 b1_6 b1_7 b1_8 b1_9 b2_0 b2_1 b2_2 b2_3 r3 r4 r5
noncomputable def Rh (a0 : Sto) : Option ((((Int) × (Int) × (Int) × (Int) × (Int) × (Int) × (Int) × (Int) × (Int) × (Int) × (List Pr2) × (List Opn) × Unit) × (Unit))) :=
 bif decide (IntKind.i64.wrap (a0.2.2.2.1.1 + 1) > 1000000000) then some ((4, 0, 0, 0, 0, 0, 0, 0, 0, 0, [], [], ()), ()) else bif decide (IntKind.i64.wrap (a0.2.2.2.1.2.2.1 + A3 a0.2.1) > 999999000) then some ((4, 0, 0, 0, 0, 0, 0, 0, 0, 0, [], [], ()), ()) else ((fun d => Ch (Fz d.1 d.2.1 d.2.2.1 d.2.2.2.1 d.2.2.2.2.1 d.2.2.2.2.2.1 d.2.2.2.2.2.2.1 d.2.2.2.2.2.2.2.1 d.2.2.2.2.2.2.2.2.1 d.2.2.2.2.2.2.2.2.2.1 d.2.2.2.2.2.2.2.2.2.2.1 d.2.2.2.2.2.2.2.2.2.2.2.1 d.2.2.2.2.2.2.2.2.2.2.2.2.1 d.2.2.2.2.2.2.2.2.2.2.2.2.2.1 d.2.2.2.2.2.2.2.2.2.2.2.2.2.2.1 d.2.2.2.2.2.2.2.2.2.2.2.2.2.2.2.1 d.2.2.2.2.2.2.2.2.2.2.2.2.2.2.2.2.1 d.2.2.2.2.2.2.2.2.2.2.2.2.2.2.2.2.2.1 d.2.2.2.2.2.2.2.2.2.2.2.2.2.2.2.2.2.2.1 d.2.2.2.2.2.2.2.2.2.2.2.2.2.2.2.2.2.2.2.1 d.2.2.2.2.2.2.2.2.2.2.2.2.2.2.2.2.2.2.2.2.1 d.2.2.2.2.2.2.2.2.2.2.2.2.2.2.2.2.2.2.2.2.2.1 d.2.2.2.2.2.2.2.2.2.2.2.2.2.2.2.2.2.2.2.2.2.2.1 d.2.2.2.2.2.2.2.2.2.2.2.2.2.2.2.2.2.2.2.2.2.2.2.1 d.2.2.2.2.2.2.2.2.2.2.2.2.2.2.2.2.2.2.2.2.2.2.2.2.1 d.2.2.2.2.2.2.2.2.2.2.2.2.2.2.2.2.2.2.2.2.2.2.2.2.2.1 d.2.2.2.2.2.2.2.2.2.2.2.2.2.2.2.2.2.2.2.2.2.2.2.2.2.2.1 d.2.2.2.2.2.2.2.2.2.2.2.2.2.2.2.2.2.2.2.2.2.2.2.2.2.2.2.1 d.2.2.2.2.2.2.2.2.2.2.2.2.2.2.2.2.2.2.2.2.2.2.2.2.2.2.2.2.1 d.2.2.2.2.2.2.2.2.2.2.2.2.2.2.2.2.2.2.2.2.2.2.2.2.2.2.2.2.2.1 d.2.2.2.2.2.2.2.2.2.2.2.2.2.2.2.2.2.2.2.2.2.2.2.2.2.2.2.2.2.2.1) d.1 d.2.1 d.2.2.1 d.2.2.2.1 d.2.2.2.2.1 d.2.2.2.2.2.1 d.2.2.2.2.2.2.1 d.2.2.2.2.2.2.2.1 d.2.2.2.2.2.2.2.2.1 d.2.2.2.2.2.2.2.2.2.1 d.2.2.2.2.2.2.2.2.2.2.1 d.2.2.2.2.2.2.2.2.2.2.2.1 d.2.2.2.2.2.2.2.2.2.2.2.2.1 d.2.2.2.2.2.2.2.2.2.2.2.2.2.1 d.2.2.2.2.2.2.2.2.2.2.2.2.2.2.1 d.2.2.2.2.2.2.2.2.2.2.2.2.2.2.2.1 d.2.2.2.2.2.2.2.2.2.2.2.2.2.2.2.2.1 d.2.2.2.2.2.2.2.2.2.2.2.2.2.2.2.2.2.1 d.2.2.2.2.2.2.2.2.2.2.2.2.2.2.2.2.2.2.1 d.2.2.2.2.2.2.2.2.2.2.2.2.2.2.2.2.2.2.2.1 d.2.2.2.2.2.2.2.2.2.2.2.2.2.2.2.2.2.2.2.2.1 d.2.2.2.2.2.2.2.2.2.2.2.2.2.2.2.2.2.2.2.2.2.1 d.2.2.2.2.2.2.2.2.2.2.2.2.2.2.2.2.2.2.2.2.2.2.1 d.2.2.2.2.2.2.2.2.2.2.2.2.2.2.2.2.2.2.2.2.2.2.2.1 d.2.2.2.2.2.2.2.2.2.2.2.2.2.2.2.2.2.2.2.2.2.2.2.2.1 d.2.2.2.2.2.2.2.2.2.2.2.2.2.2.2.2.2.2.2.2.2.2.2.2.2.1 d.2.2.2.2.2.2.2.2.2.2.2.2.2.2.2.2.2.2.2.2.2.2.2.2.2.2.1 d.2.2.2.2.2.2.2.2.2.2.2.2.2.2.2.2.2.2.2.2.2.2.2.2.2.2.2.1 d.2.2.2.2.2.2.2.2.2.2.2.2.2.2.2.2.2.2.2.2.2.2.2.2.2.2.2.2.1 d.2.2.2.2.2.2.2.2.2.2.2.2.2.2.2.2.2.2.2.2.2.2.2.2.2.2.2.2.2.1 d.2.2.2.2.2.2.2.2.2.2.2.2.2.2.2.2.2.2.2.2.2.2.2.2.2.2.2.2.2.2.1) (Bj a0.2.1 (IntKind.i64.wrap (1 - a0.2.2.2.1.2.1)), Hg a0.2.2.2.2.2.2.1, 1, 0, a0.1, a0.2.1, a0.2.2.1, a0.2.2.2.1.1, a0.2.2.2.1.2.1, a0.2.2.2.1.2.2.1, a0.2.2.2.1.2.2.2.1, a0.2.2.2.2.1, a0.2.2.2.2.2.1, a0.2.2.2.2.2.2.1.1, 0, 0, 0, 0, 0, 0, 0, 0, 0, 0, IntKind.i64.wrap (a0.2.2.2.1.1 + 1), IntKind.i64.wrap (1 - a0.2.2.2.1.2.1), IntKind.i64.wrap (a0.2.2.2.1.2.2.1 + A3 a0.2.1), a0.2.2.1, [(false, Bj a0.2.1 (IntKind.i64.wrap (1 - a0.2.2.2.1.2.1)), Cb (3, a0.2.2.1, IntKind.i64.wrap (a0.2.2.2.1.2.2.1 + A3 a0.2.1), ByteArray.mk #[], ()) a0.1, ())], [], [], ())).bind fun val => bif decide ((val.2.2.2.2.2.2.2.2.2.2.2.2.2.2.2.2.2.2.2.2.2.2.2.2.2.1.length + [(true, 0, ByteArray.mk #[], ()), (false, Int.tmod val.2.2.2.2.2.2.2.2.2.2.2.2.2.2.2.2.2.2.2.2.2.1 2, F4 (val.2.2.2.2.2.2.2.2.2.2.2.2.2.2.2.2.2.2.2.2.2.1, val.2.2.2.2.2.2.2.2.2.2.2.2.2.2.2.2.2.2.2.2.2.2.1, val.2.2.2.2.2.2.2.2.2.2.2.2.2.2.2.2.2.2.2.2.2.2.2.1, val.2.2.2.2.2.2.2.2.2.2.2.2.2.2.2.2.2.2.2.2.2.2.2.2.1, ()) val.2.1, ()), (true, 0, ByteArray.mk #[], ())].length) * 32 ≤ 140737488355328) then ((H3 (val.2.2.2.2.2.2.2.2.2.2.1, ())).bind fun val => some (val, ())).bind fun val_1 => some ((0, val.2.1, val.2.2.1, val.2.2.2.1, val.2.2.2.2.2.2.2.2.2.2.2.2.2.2.2.2.2.2.2.2.2.1, val.2.2.2.2.2.2.2.2.2.2.2.2.2.2.2.2.2.2.2.2.2.2.1, val.2.2.2.2.2.2.2.2.2.2.2.2.2.2.2.2.2.2.2.2.2.2.2.1, val.2.2.2.2.2.2.2.2.2.2.2.2.2.2.2.2.2.2.2.2.2.2.2.2.1, val.1, 0, val_1.1.1, val.2.2.2.2.2.2.2.2.2.2.2.2.2.2.2.2.2.2.2.2.2.2.2.2.2.1 ++ [(true, 0, ByteArray.mk #[], ()), (false, Int.tmod val.2.2.2.2.2.2.2.2.2.2.2.2.2.2.2.2.2.2.2.2.2.1 2, F4 (val.2.2.2.2.2.2.2.2.2.2.2.2.2.2.2.2.2.2.2.2.2.1, val.2.2.2.2.2.2.2.2.2.2.2.2.2.2.2.2.2.2.2.2.2.2.1, val.2.2.2.2.2.2.2.2.2.2.2.2.2.2.2.2.2.2.2.2.2.2.2.1, val.2.2.2.2.2.2.2.2.2.2.2.2.2.2.2.2.2.2.2.2.2.2.2.2.1, ()) val.2.1, ()), (true, 0, ByteArray.mk #[], ())], ()), ()) else none
theorem Ath (b0 b1 b2 b3 b4 b5 b6 b7 b8 T H F l : Int) (b9 : List Pr2) (S : List (List Chg)) (v9 : Int) (L0 P : List ByteArray) (hH : 0 ≤ H ∧ H ≤ 1) (hL0 : L0.length ≤ 500000) (hP : P.length ≤ 4001) :
  Cw (Hw (Bv H b1) S (nI L0.length) v9 P 0 b0 b1 b2 b3 b4 b5 b6 b7 b8 b9 0 0 0 0 0 0 0 0 0 0 T H F l (Hn (Bv H b1) L0) [] []) (Bv H b1) S (nI L0.length) v9 P 0 b0 b1 b2 b3 b4 b5 b6 b7 b8 b9 0 0 0 0 0 0 0 0 0 0 T H F l (Hn (Bv H b1) L0) [] [] = some (Bv H b1, S, nI (L0 ++ P).length, v9, b0, b1, b2, b3, b4, b5, b6, b7, b8, b9, 0, 0, 0, 0, 0, 0, 0, 0, 0, 0, T, H, F, l, Hn (Bv H b1) (L0 ++ P), [], [], ()) := by
 have hm := Aik (n := b1) hH
 have hB : 0 ≤ Bv H b1 ∧ Bv H b1 ≤ 101 := by unfold Bv; omega
 have hL := E4 (xs := P) z0 (fun i (L : List ByteArray) => i ≤ 4001 ∧ L.length = L0.length + i) (fun (_ : Nat) x L => L ++ [x]) (g := fun m i L => Cw m (Bv H b1) S (nI L.length) v9 P i b0 b1 b2 b3 b4 b5 b6 b7 b8 b9 0 0 0 0 0 0 0 0 0 0 T H F l (Hn (Bv H b1) L) [] []) (ok := fun L => (Bv H b1, S, nI L.length, v9, b0, b1, b2, b3, b4, b5, b6, b7, b8, b9, 0, 0, 0, 0, 0, 0, 0, 0, 0, 0, T, H, F, l, Hn (Bv H b1) L, [], [], ())) (fun m i L hi hI => by
   show Cw (m + 1) (Bv H b1) S (nI L.length) v9 P i b0 b1 b2 b3 b4 b5 b6 b7 b8 b9 0 0 0 0 0 0 0 0 0 0 T H F l (Hn (Bv H b1) L) [] [] = _
   simp only [Cw, Hx]
   obtain ⟨h1, h2⟩ := hI
   have e1 : IntKind.i64.wrap (nI L.length + 1) = nI (L.length + 1) := wI (show L.length < 4611686018427387904 by omega)
   have e2 : IntKind.i64.wrap (Bv H b1 + nI L.length) = Bv H b1 + (L.length : Int) := by simp only [nI]; exact Ad (by omega) (by omega)
   rw [Ou hi, F2, wI (show i < 4611686018427387904 by omega), Int.toNat_natCast, e1, e2, List.length_singleton, T7, decide_eq_true (show (L.length + 1) * 32 ≤ 140737488355328 by omega), Aol, List.length_append, List.length_singleton]
   rfl) (fun i L hi hI => ⟨by omega, by rw [List.length_append, List.length_singleton, hI.2]; omega⟩) (fun m L hI => by
   show Cw (m + 1) (Bv H b1) S (nI L.length) v9 P (P.length : Int) b0 b1 b2 b3 b4 b5 b6 b7 b8 b9 0 0 0 0 0 0 0 0 0 0 T H F l (Hn (Bv H b1) L) [] [] = _
   simp only [Cw, Hx]
   rw [I0]
   rfl) (Hw (Bv H b1) S (nI L0.length) v9 P 0 b0 b1 b2 b3 b4 b5 b6 b7 b8 b9 0 0 0 0 0 0 0 0 0 0 T H F l (Hn (Bv H b1) L0) [] []) 0 L0 (by omega) (by simp [Hw, nI]) ⟨by omega, rfl⟩
 rw [Akb, List.drop_zero] at hL
 exact hL
theorem Ati (b0 b1 b2 b3 b4 b5 b6 b7 b8 T H F l : Int) (b9 : List Pr2) (S : List (List Chg)) (L : List ByteArray) (hS : S.length ≤ 101) (hH : 0 ≤ H ∧ H ≤ 1) (hF : 0 ≤ F ∧ F ≤ 1000000099) (hL : L.length ≤ 1) :
  Ch (Fz (Bv H b1) S (nI L.length) 0 b0 b1 b2 b3 b4 b5 b6 b7 b8 b9 0 0 0 0 0 0 0 0 0 0 T H F l (Hn (Bv H b1) L) [] []) (Bv H b1) S (nI L.length) 0 b0 b1 b2 b3 b4 b5 b6 b7 b8 b9 0 0 0 0 0 0 0 0 0 0 T H F l (Hn (Bv H b1) L) [] [] = some (nI (Eu (fun _ b L => Qp b0 b2 F b L) 0 S L).length, b0, b1, b2, b3, b4, b5, b6, b7, b8, b9, 0, 0, 0, 0, 0, 0, 0, 0, 0, 0, T, H, F, l, Hn (Bv H b1) (Eu (fun _ b L => Qp b0 b2 F b L) 0 S L), [], [], ()) := by
 have hL := E4 (xs := S) [] MvI (fun _ b L => Qp b0 b2 F b L) (g := fun m i L => Ch m (Bv H b1) S (nI L.length) i b0 b1 b2 b3 b4 b5 b6 b7 b8 b9 0 0 0 0 0 0 0 0 0 0 T H F l (Hn (Bv H b1) L) [] []) (ok := fun L => (nI L.length, b0, b1, b2, b3, b4, b5, b6, b7, b8, b9, 0, 0, 0, 0, 0, 0, 0, 0, 0, 0, T, H, F, l, Hn (Bv H b1) L, [], [], ())) (fun m i L hi hI => by
   show Ch (m + 1) (Bv H b1) S (nI L.length) i b0 b1 b2 b3 b4 b5 b6 b7 b8 b9 0 0 0 0 0 0 0 0 0 0 T H F l (Hn (Bv H b1) L) [] [] = _
   simp only [Ch, Hz, Hy]
   obtain ⟨h1, h2⟩ := hI
   rw [Ou hi, F2, Int.toNat_natCast]
   have e0 : IntKind.i64.wrap (F + nI L.length) = F + (L.length : Int) := by simp only [nI]; exact Ad (by omega) (by omega)
   have e1 : Rg (D7 (List.getD S i [])) b2 (F + (L.length : Int)) b0 = some (Adn (Ff (List.getD S i [])) b2 (F + (L.length : Int)) b0) := if_pos (Nat.le_trans (Lg _) (by decide))
   rw [e0, e1]
   simp only [cond_true, Option.bind_some]
   refine Td (Ath b0 b1 b2 b3 b4 b5 b6 b7 b8 T H F l b9 S (i : Int) L (Adn (Ff (List.getD S i [])) b2 (F + (L.length : Int)) b0) hH (by omega) (Ap3 _ _ _ _)) ?_
   dsimp only
   rw [wI (show i < 4611686018427387904 by omega)]
   rfl) (fun i L hi hI => hI.step (by omega) _ _ _ _) (fun m L hI => by
   show Ch (m + 1) (Bv H b1) S (nI L.length) (S.length : Int) b0 b1 b2 b3 b4 b5 b6 b7 b8 b9 0 0 0 0 0 0 0 0 0 0 T H F l (Hn (Bv H b1) L) [] [] = _
   simp only [Ch, Hz, Hy]
   rw [I0]
   rfl) (Fz (Bv H b1) S (nI L.length) 0 b0 b1 b2 b3 b4 b5 b6 b7 b8 b9 0 0 0 0 0 0 0 0 0 0 T H F l (Hn (Bv H b1) L) [] []) 0 L (by omega) (by simp [Fz, nI]) ⟨by omega, by omega⟩
 exact hL
theorem Alo (a0 : Sto) r (h : Kz a0 = some r) : Rh a0 = some ((r.1, r.2.1.1, r.2.1.2.1, r.2.1.2.2.1, r.2.1.2.2.2.1.1, r.2.1.2.2.2.1.2.1, r.2.1.2.2.2.1.2.2.1, r.2.1.2.2.2.1.2.2.2.1, r.2.1.2.2.2.2.1, r.2.1.2.2.2.2.2.1, r.2.1.2.2.2.2.2.2.1.1, r.2.2.1, ()), (())) := by
 unfold Kz at h
 split at h
 rotate_left
 ·cases h
 rename_i hk
 cases h
 obtain ⟨⟨t0, t1⟩, ⟨h0, h1⟩, ⟨f0, f1⟩, hp⟩ := hk
 have hh := Nr a0.2.1
 unfold Rh Af2 Aa0
 simp only [A3, Hg, Cb, F4]
 show (bif decide (IntKind.i64.wrap (a0.2.2.2.1.1 + 1) > 1000000000) then _ else bif decide (IntKind.i64.wrap (a0.2.2.2.1.2.2.1 + An a0.2.1) > 999999000) then _ else _) = _
 rw [Ad (n := a0.2.2.2.1.1 + 1) (by omega) (by omega), Ad (n := a0.2.2.2.1.2.2.1 + An a0.2.1) (by omega) (by omega), Ad (n := 1 - a0.2.2.2.1.2.1) (by omega) (by omega)]
 cases hc1 : decide (a0.2.2.2.1.1 + 1 > 1000000000) with
 | true => rfl
 | false =>
  cases hc2 : decide (a0.2.2.2.1.2.2.1 + An a0.2.1 > 999999000) with
  | true => rfl
  | false =>
   simp only [cond_false]
   have hm := Aik (n := a0.2.1) (show 0 ≤ 1 - a0.2.2.2.1.2.1 ∧ 1 - a0.2.2.2.1.2.1 ≤ 1 by omega)
   have e0 : Bj a0.2.1 (1 - a0.2.2.2.1.2.1) = Bv (1 - a0.2.2.2.1.2.1) a0.2.1 := by
    show IntKind.i64.wrap (2 + IntKind.i64.wrap ((1 - a0.2.2.2.1.2.1) * An a0.2.1)) = 2 + (1 - a0.2.2.2.1.2.1) * An a0.2.1
    rw [Ad (n := (1 - a0.2.2.2.1.2.1) * An a0.2.1) (by omega) (by omega), Ad (by omega) (by omega)]
   rw [e0]
   have hL1 := Ati a0.1 a0.2.1 a0.2.2.1 a0.2.2.2.1.1 a0.2.2.2.1.2.1 a0.2.2.2.1.2.2.1 a0.2.2.2.1.2.2.2.1 a0.2.2.2.2.1 a0.2.2.2.2.2.1 (a0.2.2.2.1.1 + 1) (1 - a0.2.2.2.1.2.1) (a0.2.2.2.1.2.2.1 + An a0.2.1) a0.2.2.1 a0.2.2.2.2.2.2.1.1 (Cy a0.2.2.2.2.2.2.1) [Db (3, a0.2.2.1, a0.2.2.2.1.2.2.1 + An a0.2.1, z0, ()) a0.1] (P9 _) ⟨by omega, by omega⟩ ⟨by omega, by omega⟩ (Nat.le_refl 1)
   have hl := Aij a0 a0.2.2.1
   have e1 : H3 (a0.2.2.2.2.2.2.1.1, ()) = some (a0.2.2.2.2.2.2.1.1, ()) := if_pos hp
   have e2 : decide (((Hn (Bv (1 - a0.2.2.2.1.2.1) a0.2.1) (mvL a0 a0.2.2.1)).length + 3) * 32 ≤ 140737488355328) = true := decide_eq_true (by rw [T7]; omega)
   refine Td hL1 ?_
   dsimp only
   simp only [List.length_cons, List.length_nil, Nat.zero_add, Nat.reduceAdd]
   refine (congrArg (fun c => bif c then _ else none) e2).trans ?_
   simp only [cond_true]
   rw [e1]
   rfl
noncomputable def Sr {R : Type} (k : Kt R) := (Iz (pa_spec_l6Move 11) (.exit 0) 2 k)
noncomputable def Ss {R : Type} (k : Kt R) := (Iz (pa_spec_l6Move 15) (.exit 2) 4 k)
noncomputable def Th {R : Type} : Lt R pa_spec_l6Move := (Ef (pat := pa_spec_l6Move) 11 (fun d k => (Ch (Fz d.1 d.2.1 d.2.2.1 d.2.2.2.1 d.2.2.2.2.1 d.2.2.2.2.2.1 d.2.2.2.2.2.2.1 d.2.2.2.2.2.2.2.1 d.2.2.2.2.2.2.2.2.1 d.2.2.2.2.2.2.2.2.2.1 d.2.2.2.2.2.2.2.2.2.2.1 d.2.2.2.2.2.2.2.2.2.2.2.1 d.2.2.2.2.2.2.2.2.2.2.2.2.1 d.2.2.2.2.2.2.2.2.2.2.2.2.2.1 d.2.2.2.2.2.2.2.2.2.2.2.2.2.2.1 d.2.2.2.2.2.2.2.2.2.2.2.2.2.2.2.1 d.2.2.2.2.2.2.2.2.2.2.2.2.2.2.2.2.1 d.2.2.2.2.2.2.2.2.2.2.2.2.2.2.2.2.2.1 d.2.2.2.2.2.2.2.2.2.2.2.2.2.2.2.2.2.2.1 d.2.2.2.2.2.2.2.2.2.2.2.2.2.2.2.2.2.2.2.1 d.2.2.2.2.2.2.2.2.2.2.2.2.2.2.2.2.2.2.2.2.1 d.2.2.2.2.2.2.2.2.2.2.2.2.2.2.2.2.2.2.2.2.2.1 d.2.2.2.2.2.2.2.2.2.2.2.2.2.2.2.2.2.2.2.2.2.2.1 d.2.2.2.2.2.2.2.2.2.2.2.2.2.2.2.2.2.2.2.2.2.2.2.1 d.2.2.2.2.2.2.2.2.2.2.2.2.2.2.2.2.2.2.2.2.2.2.2.2.1 d.2.2.2.2.2.2.2.2.2.2.2.2.2.2.2.2.2.2.2.2.2.2.2.2.2.1 d.2.2.2.2.2.2.2.2.2.2.2.2.2.2.2.2.2.2.2.2.2.2.2.2.2.2.1 d.2.2.2.2.2.2.2.2.2.2.2.2.2.2.2.2.2.2.2.2.2.2.2.2.2.2.2.1 d.2.2.2.2.2.2.2.2.2.2.2.2.2.2.2.2.2.2.2.2.2.2.2.2.2.2.2.2.1 d.2.2.2.2.2.2.2.2.2.2.2.2.2.2.2.2.2.2.2.2.2.2.2.2.2.2.2.2.2.1 d.2.2.2.2.2.2.2.2.2.2.2.2.2.2.2.2.2.2.2.2.2.2.2.2.2.2.2.2.2.2.1) d.1 d.2.1 d.2.2.1 d.2.2.2.1 d.2.2.2.2.1 d.2.2.2.2.2.1 d.2.2.2.2.2.2.1 d.2.2.2.2.2.2.2.1 d.2.2.2.2.2.2.2.2.1 d.2.2.2.2.2.2.2.2.2.1 d.2.2.2.2.2.2.2.2.2.2.1 d.2.2.2.2.2.2.2.2.2.2.2.1 d.2.2.2.2.2.2.2.2.2.2.2.2.1 d.2.2.2.2.2.2.2.2.2.2.2.2.2.1 d.2.2.2.2.2.2.2.2.2.2.2.2.2.2.1 d.2.2.2.2.2.2.2.2.2.2.2.2.2.2.2.1 d.2.2.2.2.2.2.2.2.2.2.2.2.2.2.2.2.1 d.2.2.2.2.2.2.2.2.2.2.2.2.2.2.2.2.2.1 d.2.2.2.2.2.2.2.2.2.2.2.2.2.2.2.2.2.2.1 d.2.2.2.2.2.2.2.2.2.2.2.2.2.2.2.2.2.2.2.1 d.2.2.2.2.2.2.2.2.2.2.2.2.2.2.2.2.2.2.2.2.1 d.2.2.2.2.2.2.2.2.2.2.2.2.2.2.2.2.2.2.2.2.2.1 d.2.2.2.2.2.2.2.2.2.2.2.2.2.2.2.2.2.2.2.2.2.2.1 d.2.2.2.2.2.2.2.2.2.2.2.2.2.2.2.2.2.2.2.2.2.2.2.1 d.2.2.2.2.2.2.2.2.2.2.2.2.2.2.2.2.2.2.2.2.2.2.2.2.1 d.2.2.2.2.2.2.2.2.2.2.2.2.2.2.2.2.2.2.2.2.2.2.2.2.2.1 d.2.2.2.2.2.2.2.2.2.2.2.2.2.2.2.2.2.2.2.2.2.2.2.2.2.2.1 d.2.2.2.2.2.2.2.2.2.2.2.2.2.2.2.2.2.2.2.2.2.2.2.2.2.2.2.1 d.2.2.2.2.2.2.2.2.2.2.2.2.2.2.2.2.2.2.2.2.2.2.2.2.2.2.2.2.1 d.2.2.2.2.2.2.2.2.2.2.2.2.2.2.2.2.2.2.2.2.2.2.2.2.2.2.2.2.2.1 d.2.2.2.2.2.2.2.2.2.2.2.2.2.2.2.2.2.2.2.2.2.2.2.2.2.2.2.2.2.2.1).bind (Sr k)) (Ef (pat := pa_spec_l6Move) 15 (fun d k => (Hy d).bind (Ss k)) Fu))
theorem Ri : As Tryz.prog ta_spec_l6Move := Au ⟨Qy, Im, Atg, Mr, f8, Ym, Yt, Ui, Uq, trivial⟩
theorem Ab5 {R : Type} : Ay Tryz.prog R 125 0 pa_spec_l6Move Th co_spec_l6Move_15 :=
 B6 (cfg := ⟨ta_spec_l6Move, 0, 125, pa_spec_l6Move⟩) 15 [] (fun NX X d => Hx  NX X d.1 d.2.1 d.2.2.1 d.2.2.2.1 d.2.2.2.2.1 d.2.2.2.2.2.1 d.2.2.2.2.2.2.1 d.2.2.2.2.2.2.2.1 d.2.2.2.2.2.2.2.2.1 d.2.2.2.2.2.2.2.2.2.1 d.2.2.2.2.2.2.2.2.2.2.1 d.2.2.2.2.2.2.2.2.2.2.2.1 d.2.2.2.2.2.2.2.2.2.2.2.2.1 d.2.2.2.2.2.2.2.2.2.2.2.2.2.1 d.2.2.2.2.2.2.2.2.2.2.2.2.2.2.1 d.2.2.2.2.2.2.2.2.2.2.2.2.2.2.2.1 d.2.2.2.2.2.2.2.2.2.2.2.2.2.2.2.2.1 d.2.2.2.2.2.2.2.2.2.2.2.2.2.2.2.2.2.1 d.2.2.2.2.2.2.2.2.2.2.2.2.2.2.2.2.2.2.1 d.2.2.2.2.2.2.2.2.2.2.2.2.2.2.2.2.2.2.2.1 d.2.2.2.2.2.2.2.2.2.2.2.2.2.2.2.2.2.2.2.2.1 d.2.2.2.2.2.2.2.2.2.2.2.2.2.2.2.2.2.2.2.2.2.1 d.2.2.2.2.2.2.2.2.2.2.2.2.2.2.2.2.2.2.2.2.2.2.1 d.2.2.2.2.2.2.2.2.2.2.2.2.2.2.2.2.2.2.2.2.2.2.2.1 d.2.2.2.2.2.2.2.2.2.2.2.2.2.2.2.2.2.2.2.2.2.2.2.2.1 d.2.2.2.2.2.2.2.2.2.2.2.2.2.2.2.2.2.2.2.2.2.2.2.2.2.1 d.2.2.2.2.2.2.2.2.2.2.2.2.2.2.2.2.2.2.2.2.2.2.2.2.2.2.1 d.2.2.2.2.2.2.2.2.2.2.2.2.2.2.2.2.2.2.2.2.2.2.2.2.2.2.2.1 d.2.2.2.2.2.2.2.2.2.2.2.2.2.2.2.2.2.2.2.2.2.2.2.2.2.2.2.2.1 d.2.2.2.2.2.2.2.2.2.2.2.2.2.2.2.2.2.2.2.2.2.2.2.2.2.2.2.2.2.1 d.2.2.2.2.2.2.2.2.2.2.2.2.2.2.2.2.2.2.2.2.2.2.2.2.2.2.2.2.2.2.1 d.2.2.2.2.2.2.2.2.2.2.2.2.2.2.2.2.2.2.2.2.2.2.2.2.2.2.2.2.2.2.2.1 d.2.2.2.2.2.2.2.2.2.2.2.2.2.2.2.2.2.2.2.2.2.2.2.2.2.2.2.2.2.2.2.2.1) (fun m d => Cw m d.1 d.2.1 d.2.2.1 d.2.2.2.1 d.2.2.2.2.1 d.2.2.2.2.2.1 d.2.2.2.2.2.2.1 d.2.2.2.2.2.2.2.1 d.2.2.2.2.2.2.2.2.1 d.2.2.2.2.2.2.2.2.2.1 d.2.2.2.2.2.2.2.2.2.2.1 d.2.2.2.2.2.2.2.2.2.2.2.1 d.2.2.2.2.2.2.2.2.2.2.2.2.1 d.2.2.2.2.2.2.2.2.2.2.2.2.2.1 d.2.2.2.2.2.2.2.2.2.2.2.2.2.2.1 d.2.2.2.2.2.2.2.2.2.2.2.2.2.2.2.1 d.2.2.2.2.2.2.2.2.2.2.2.2.2.2.2.2.1 d.2.2.2.2.2.2.2.2.2.2.2.2.2.2.2.2.2.1 d.2.2.2.2.2.2.2.2.2.2.2.2.2.2.2.2.2.2.1 d.2.2.2.2.2.2.2.2.2.2.2.2.2.2.2.2.2.2.2.1 d.2.2.2.2.2.2.2.2.2.2.2.2.2.2.2.2.2.2.2.2.1 d.2.2.2.2.2.2.2.2.2.2.2.2.2.2.2.2.2.2.2.2.2.1 d.2.2.2.2.2.2.2.2.2.2.2.2.2.2.2.2.2.2.2.2.2.2.1 d.2.2.2.2.2.2.2.2.2.2.2.2.2.2.2.2.2.2.2.2.2.2.2.1 d.2.2.2.2.2.2.2.2.2.2.2.2.2.2.2.2.2.2.2.2.2.2.2.2.1 d.2.2.2.2.2.2.2.2.2.2.2.2.2.2.2.2.2.2.2.2.2.2.2.2.2.1 d.2.2.2.2.2.2.2.2.2.2.2.2.2.2.2.2.2.2.2.2.2.2.2.2.2.2.1 d.2.2.2.2.2.2.2.2.2.2.2.2.2.2.2.2.2.2.2.2.2.2.2.2.2.2.2.1 d.2.2.2.2.2.2.2.2.2.2.2.2.2.2.2.2.2.2.2.2.2.2.2.2.2.2.2.2.1 d.2.2.2.2.2.2.2.2.2.2.2.2.2.2.2.2.2.2.2.2.2.2.2.2.2.2.2.2.2.1 d.2.2.2.2.2.2.2.2.2.2.2.2.2.2.2.2.2.2.2.2.2.2.2.2.2.2.2.2.2.2.1 d.2.2.2.2.2.2.2.2.2.2.2.2.2.2.2.2.2.2.2.2.2.2.2.2.2.2.2.2.2.2.2.1 d.2.2.2.2.2.2.2.2.2.2.2.2.2.2.2.2.2.2.2.2.2.2.2.2.2.2.2.2.2.2.2.2.1) (fun d => Hw d.1 d.2.1 d.2.2.1 d.2.2.2.1 d.2.2.2.2.1 d.2.2.2.2.2.1 d.2.2.2.2.2.2.1 d.2.2.2.2.2.2.2.1 d.2.2.2.2.2.2.2.2.1 d.2.2.2.2.2.2.2.2.2.1 d.2.2.2.2.2.2.2.2.2.2.1 d.2.2.2.2.2.2.2.2.2.2.2.1 d.2.2.2.2.2.2.2.2.2.2.2.2.1 d.2.2.2.2.2.2.2.2.2.2.2.2.2.1 d.2.2.2.2.2.2.2.2.2.2.2.2.2.2.1 d.2.2.2.2.2.2.2.2.2.2.2.2.2.2.2.1 d.2.2.2.2.2.2.2.2.2.2.2.2.2.2.2.2.1 d.2.2.2.2.2.2.2.2.2.2.2.2.2.2.2.2.2.1 d.2.2.2.2.2.2.2.2.2.2.2.2.2.2.2.2.2.2.1 d.2.2.2.2.2.2.2.2.2.2.2.2.2.2.2.2.2.2.2.1 d.2.2.2.2.2.2.2.2.2.2.2.2.2.2.2.2.2.2.2.2.1 d.2.2.2.2.2.2.2.2.2.2.2.2.2.2.2.2.2.2.2.2.2.1 d.2.2.2.2.2.2.2.2.2.2.2.2.2.2.2.2.2.2.2.2.2.2.1 d.2.2.2.2.2.2.2.2.2.2.2.2.2.2.2.2.2.2.2.2.2.2.2.1 d.2.2.2.2.2.2.2.2.2.2.2.2.2.2.2.2.2.2.2.2.2.2.2.2.1 d.2.2.2.2.2.2.2.2.2.2.2.2.2.2.2.2.2.2.2.2.2.2.2.2.2.1 d.2.2.2.2.2.2.2.2.2.2.2.2.2.2.2.2.2.2.2.2.2.2.2.2.2.2.1 d.2.2.2.2.2.2.2.2.2.2.2.2.2.2.2.2.2.2.2.2.2.2.2.2.2.2.2.1 d.2.2.2.2.2.2.2.2.2.2.2.2.2.2.2.2.2.2.2.2.2.2.2.2.2.2.2.2.1 d.2.2.2.2.2.2.2.2.2.2.2.2.2.2.2.2.2.2.2.2.2.2.2.2.2.2.2.2.2.1 d.2.2.2.2.2.2.2.2.2.2.2.2.2.2.2.2.2.2.2.2.2.2.2.2.2.2.2.2.2.2.1 d.2.2.2.2.2.2.2.2.2.2.2.2.2.2.2.2.2.2.2.2.2.2.2.2.2.2.2.2.2.2.2.1 d.2.2.2.2.2.2.2.2.2.2.2.2.2.2.2.2.2.2.2.2.2.2.2.2.2.2.2.2.2.2.2.2.1) Ss Ri trivial (fun f NX d => by unfold Hx; simp only [Am, Ap, Ah, Option.bind_assoc, Option.bind_none, Option.bind_some]) (fun _ _ _ => by kernel_rfl)
theorem Ab6 {R : Type} : Ay Tryz.prog R 125 0 pa_spec_l6Move Th co_spec_l6Move_11 :=
 B6 (cfg := ⟨ta_spec_l6Move, 0, 125, pa_spec_l6Move⟩) 11 [co_spec_l6Move_15] (fun NX X d => Hz Hy NX X d.1 d.2.1 d.2.2.1 d.2.2.2.1 d.2.2.2.2.1 d.2.2.2.2.2.1 d.2.2.2.2.2.2.1 d.2.2.2.2.2.2.2.1 d.2.2.2.2.2.2.2.2.1 d.2.2.2.2.2.2.2.2.2.1 d.2.2.2.2.2.2.2.2.2.2.1 d.2.2.2.2.2.2.2.2.2.2.2.1 d.2.2.2.2.2.2.2.2.2.2.2.2.1 d.2.2.2.2.2.2.2.2.2.2.2.2.2.1 d.2.2.2.2.2.2.2.2.2.2.2.2.2.2.1 d.2.2.2.2.2.2.2.2.2.2.2.2.2.2.2.1 d.2.2.2.2.2.2.2.2.2.2.2.2.2.2.2.2.1 d.2.2.2.2.2.2.2.2.2.2.2.2.2.2.2.2.2.1 d.2.2.2.2.2.2.2.2.2.2.2.2.2.2.2.2.2.2.1 d.2.2.2.2.2.2.2.2.2.2.2.2.2.2.2.2.2.2.2.1 d.2.2.2.2.2.2.2.2.2.2.2.2.2.2.2.2.2.2.2.2.1 d.2.2.2.2.2.2.2.2.2.2.2.2.2.2.2.2.2.2.2.2.2.1 d.2.2.2.2.2.2.2.2.2.2.2.2.2.2.2.2.2.2.2.2.2.2.1 d.2.2.2.2.2.2.2.2.2.2.2.2.2.2.2.2.2.2.2.2.2.2.2.1 d.2.2.2.2.2.2.2.2.2.2.2.2.2.2.2.2.2.2.2.2.2.2.2.2.1 d.2.2.2.2.2.2.2.2.2.2.2.2.2.2.2.2.2.2.2.2.2.2.2.2.2.1 d.2.2.2.2.2.2.2.2.2.2.2.2.2.2.2.2.2.2.2.2.2.2.2.2.2.2.1 d.2.2.2.2.2.2.2.2.2.2.2.2.2.2.2.2.2.2.2.2.2.2.2.2.2.2.2.1 d.2.2.2.2.2.2.2.2.2.2.2.2.2.2.2.2.2.2.2.2.2.2.2.2.2.2.2.2.1 d.2.2.2.2.2.2.2.2.2.2.2.2.2.2.2.2.2.2.2.2.2.2.2.2.2.2.2.2.2.1 d.2.2.2.2.2.2.2.2.2.2.2.2.2.2.2.2.2.2.2.2.2.2.2.2.2.2.2.2.2.2.1) (fun m d => Ch m d.1 d.2.1 d.2.2.1 d.2.2.2.1 d.2.2.2.2.1 d.2.2.2.2.2.1 d.2.2.2.2.2.2.1 d.2.2.2.2.2.2.2.1 d.2.2.2.2.2.2.2.2.1 d.2.2.2.2.2.2.2.2.2.1 d.2.2.2.2.2.2.2.2.2.2.1 d.2.2.2.2.2.2.2.2.2.2.2.1 d.2.2.2.2.2.2.2.2.2.2.2.2.1 d.2.2.2.2.2.2.2.2.2.2.2.2.2.1 d.2.2.2.2.2.2.2.2.2.2.2.2.2.2.1 d.2.2.2.2.2.2.2.2.2.2.2.2.2.2.2.1 d.2.2.2.2.2.2.2.2.2.2.2.2.2.2.2.2.1 d.2.2.2.2.2.2.2.2.2.2.2.2.2.2.2.2.2.1 d.2.2.2.2.2.2.2.2.2.2.2.2.2.2.2.2.2.2.1 d.2.2.2.2.2.2.2.2.2.2.2.2.2.2.2.2.2.2.2.1 d.2.2.2.2.2.2.2.2.2.2.2.2.2.2.2.2.2.2.2.2.1 d.2.2.2.2.2.2.2.2.2.2.2.2.2.2.2.2.2.2.2.2.2.1 d.2.2.2.2.2.2.2.2.2.2.2.2.2.2.2.2.2.2.2.2.2.2.1 d.2.2.2.2.2.2.2.2.2.2.2.2.2.2.2.2.2.2.2.2.2.2.2.1 d.2.2.2.2.2.2.2.2.2.2.2.2.2.2.2.2.2.2.2.2.2.2.2.2.1 d.2.2.2.2.2.2.2.2.2.2.2.2.2.2.2.2.2.2.2.2.2.2.2.2.2.1 d.2.2.2.2.2.2.2.2.2.2.2.2.2.2.2.2.2.2.2.2.2.2.2.2.2.2.1 d.2.2.2.2.2.2.2.2.2.2.2.2.2.2.2.2.2.2.2.2.2.2.2.2.2.2.2.1 d.2.2.2.2.2.2.2.2.2.2.2.2.2.2.2.2.2.2.2.2.2.2.2.2.2.2.2.2.1 d.2.2.2.2.2.2.2.2.2.2.2.2.2.2.2.2.2.2.2.2.2.2.2.2.2.2.2.2.2.1 d.2.2.2.2.2.2.2.2.2.2.2.2.2.2.2.2.2.2.2.2.2.2.2.2.2.2.2.2.2.2.1) (fun d => Fz d.1 d.2.1 d.2.2.1 d.2.2.2.1 d.2.2.2.2.1 d.2.2.2.2.2.1 d.2.2.2.2.2.2.1 d.2.2.2.2.2.2.2.1 d.2.2.2.2.2.2.2.2.1 d.2.2.2.2.2.2.2.2.2.1 d.2.2.2.2.2.2.2.2.2.2.1 d.2.2.2.2.2.2.2.2.2.2.2.1 d.2.2.2.2.2.2.2.2.2.2.2.2.1 d.2.2.2.2.2.2.2.2.2.2.2.2.2.1 d.2.2.2.2.2.2.2.2.2.2.2.2.2.2.1 d.2.2.2.2.2.2.2.2.2.2.2.2.2.2.2.1 d.2.2.2.2.2.2.2.2.2.2.2.2.2.2.2.2.1 d.2.2.2.2.2.2.2.2.2.2.2.2.2.2.2.2.2.1 d.2.2.2.2.2.2.2.2.2.2.2.2.2.2.2.2.2.2.1 d.2.2.2.2.2.2.2.2.2.2.2.2.2.2.2.2.2.2.2.1 d.2.2.2.2.2.2.2.2.2.2.2.2.2.2.2.2.2.2.2.2.1 d.2.2.2.2.2.2.2.2.2.2.2.2.2.2.2.2.2.2.2.2.2.1 d.2.2.2.2.2.2.2.2.2.2.2.2.2.2.2.2.2.2.2.2.2.2.1 d.2.2.2.2.2.2.2.2.2.2.2.2.2.2.2.2.2.2.2.2.2.2.2.1 d.2.2.2.2.2.2.2.2.2.2.2.2.2.2.2.2.2.2.2.2.2.2.2.2.1 d.2.2.2.2.2.2.2.2.2.2.2.2.2.2.2.2.2.2.2.2.2.2.2.2.2.1 d.2.2.2.2.2.2.2.2.2.2.2.2.2.2.2.2.2.2.2.2.2.2.2.2.2.2.1 d.2.2.2.2.2.2.2.2.2.2.2.2.2.2.2.2.2.2.2.2.2.2.2.2.2.2.2.1 d.2.2.2.2.2.2.2.2.2.2.2.2.2.2.2.2.2.2.2.2.2.2.2.2.2.2.2.2.1 d.2.2.2.2.2.2.2.2.2.2.2.2.2.2.2.2.2.2.2.2.2.2.2.2.2.2.2.2.2.1 d.2.2.2.2.2.2.2.2.2.2.2.2.2.2.2.2.2.2.2.2.2.2.2.2.2.2.2.2.2.2.1) Sr Ri ⟨Ab5, trivial⟩ (fun f NX d => by unfold Hz; simp only [Am, Ap, Ah, Option.bind_assoc, Option.bind_none, Option.bind_some]) (fun _ _ _ => by kernel_rfl)
theorem Alp : Bo Tryz.prog 108 sd_spec_l6Move :=
 At (pat := pa_spec_l6Move) [co_spec_l6Move_11] Th Ri ⟨Ab6, trivial⟩ Tryz.func108 (de := fun x => Rh x.1) (fun x r h => Az (Alo x.1) h) fun _ => by kernel_rfl
def A0 (d : Dk) (w : Int) : Don := Aos d w
def Aqm : Sig := ⟨[.rd yDk, .rd tI], [some 2, none], [.rd tI, .rd tI, .rd tI, .rd tI, .rd tI, .rd tI, .rd tI, .rd tI, .rd tI, .rd tI, .own 167 Aq, .own 126 B7], [some 12]⟩
noncomputable def sd_spec_Open : SD := ⟨Aqm, fun x => some (((A0 x.1 x.2.1).1, (A0 x.1 x.2.1).2.1.1, (A0 x.1 x.2.1).2.1.2.1, (A0 x.1 x.2.1).2.1.2.2.1, (A0 x.1 x.2.1).2.1.2.2.2.1.1, (A0 x.1 x.2.1).2.1.2.2.2.1.2.1, (A0 x.1 x.2.1).2.1.2.2.2.1.2.2.1, (A0 x.1 x.2.1).2.1.2.2.2.1.2.2.2.1, (A0 x.1 x.2.1).2.1.2.2.2.2.1, (A0 x.1 x.2.1).2.1.2.2.2.2.2.1, (A0 x.1 x.2.1).2.1.2.2.2.2.2.2.1.1, (A0 x.1 x.2.1).2.2.1, ()), (()))⟩
noncomputable def V7 (a0 : Dk) (a1 : Int) : Option ((((Int) × (Int) × (Int) × (Int) × (Int) × (Int) × (Int) × (Int) × (Int) × (Int) × (List Pr2) × (List Opn) × Unit) × (Unit))) :=
 bif !Gl a0 then some ((1, 0, 0, 0, 0, 0, 0, 0, 0, 0, [], [], ()), ()) else Option.bind (bif decide (a1 ≥ 1) then some ((decide (a1 ≤ 8), ()), ()) else some ((false, ()), ())) fun val => bif !val.1.1 then some ((1, 0, 0, 0, 0, 0, 0, 0, 0, 0, [], [], ()), ()) else ((Kx (B9 a0 (Bj (nI (List.length a0.1)) (Ae a0 a1).2.1) (A3 (nI (List.length a0.1))) (Ae a0 a1).2.2.1 (Ae a0 a1).2.2.2.1 a1).1).bind fun val => some ((val.1.1, val.2, ()), ())).bind fun val => bif !val.1.2.1 then some ((2, 0, 0, 0, 0, 0, 0, 0, 0, 0, [], [], ()), ()) else bif decide (IntKind.i64.wrap ((B9 a0 (Bj (nI (List.length a0.1)) (Ae a0 a1).2.1) (A3 (nI (List.length a0.1))) (Ae a0 a1).2.2.1 (Ae a0 a1).2.2.2.1 a1).2.2.1 + 1) > 60000) then some ((3, 0, 0, 0, 0, 0, 0, 0, 0, 0, [], [], ()), ()) else bif decide (So (val.1.1, ()) a1 > IntKind.i64.wrap (A3 (nI (List.length a0.1)) - 1)) then some ((4, 0, 0, 0, 0, 0, 0, 0, 0, 0, [], [], ()), ()) else bif decide ((B9 a0 (Bj (nI (List.length a0.1)) (Ae a0 a1).2.1) (A3 (nI (List.length a0.1))) (Ae a0 a1).2.2.1 (Ae a0 a1).2.2.2.1 a1).2.1 ≥ A3 (nI (List.length a0.1))) then ((Kz (a1, nI (List.length a0.1), IntKind.i64.wrap ((B9 a0 (Bj (nI (List.length a0.1)) (Ae a0 a1).2.1) (A3 (nI (List.length a0.1))) (Ae a0 a1).2.2.1 (Ae a0 a1).2.2.2.1 a1).2.2.1 + 1), Ae a0 a1, (B9 a0 (Bj (nI (List.length a0.1)) (Ae a0 a1).2.1) (A3 (nI (List.length a0.1))) (Ae a0 a1).2.2.1 (Ae a0 a1).2.2.2.1 a1).2.1, 0, (val.1.1, ()), ())).bind fun val => some ((val.1, val.2.1.1, val.2.1.2.1, val.2.1.2.2.1, val.2.1.2.2.2.1.1, val.2.1.2.2.2.1.2.1, val.2.1.2.2.2.1.2.2.1, val.2.1.2.2.2.1.2.2.2.1, val.2.1.2.2.2.2.1, val.2.1.2.2.2.2.2.1, val.2.1.2.2.2.2.2.2.1.1, val.2.2), ())).bind fun val => some val else some ((0, a1, nI (List.length a0.1), IntKind.i64.wrap ((B9 a0 (Bj (nI (List.length a0.1)) (Ae a0 a1).2.1) (A3 (nI (List.length a0.1))) (Ae a0 a1).2.2.1 (Ae a0 a1).2.2.2.1 a1).2.2.1 + 1), (Ae a0 a1).1, (Ae a0 a1).2.1, (Ae a0 a1).2.2.1, (Ae a0 a1).2.2.2.1, IntKind.i64.wrap ((B9 a0 (Bj (nI (List.length a0.1)) (Ae a0 a1).2.1) (A3 (nI (List.length a0.1))) (Ae a0 a1).2.2.1 (Ae a0 a1).2.2.2.1 a1).2.1 + 1), 0, val.1.1, [(false, IntKind.i64.wrap (Bj (nI (List.length a0.1)) (Ae a0 a1).2.1 + (B9 a0 (Bj (nI (List.length a0.1)) (Ae a0 a1).2.1) (A3 (nI (List.length a0.1))) (Ae a0 a1).2.2.1 (Ae a0 a1).2.2.2.1 a1).2.1), Cb (3, IntKind.i64.wrap ((B9 a0 (Bj (nI (List.length a0.1)) (Ae a0 a1).2.1) (A3 (nI (List.length a0.1))) (Ae a0 a1).2.2.1 (Ae a0 a1).2.2.2.1 a1).2.2.1 + 1), IntKind.i64.wrap ((Ae a0 a1).2.2.1 + (B9 a0 (Bj (nI (List.length a0.1)) (Ae a0 a1).2.1) (A3 (nI (List.length a0.1))) (Ae a0 a1).2.2.1 (Ae a0 a1).2.2.2.1 a1).2.1), ByteArray.mk #[], ()) a1, ()), (true, 0, ByteArray.mk #[], ())], ()), ())
theorem Aqn (a0 : Dk) (a1 : Int) : V7 a0 a1 = some (((A0 a0 a1).1, (A0 a0 a1).2.1.1, (A0 a0 a1).2.1.2.1, (A0 a0 a1).2.1.2.2.1, (A0 a0 a1).2.1.2.2.2.1.1, (A0 a0 a1).2.1.2.2.2.1.2.1, (A0 a0 a1).2.1.2.2.2.1.2.2.1, (A0 a0 a1).2.1.2.2.2.1.2.2.2.1, (A0 a0 a1).2.1.2.2.2.2.1, (A0 a0 a1).2.1.2.2.2.2.2.1, (A0 a0 a1).2.1.2.2.2.2.2.2.1.1, (A0 a0 a1).2.2.1, ()), (())) := by
 unfold V7 A0 Aos
 have ew : (bif decide (a1 ≥ 1) then (some ((decide (a1 ≤ 8), ()), ()) : Option ((Bool × Unit) × Unit)) else some ((false, ()), ())) = some ((E9 a1 1 8, ()), ()) := by
  unfold E9
  show (bif decide (1 ≤ a1) then _ else _) = _
  cases decide (1 ≤ a1) <;> rfl
 rw [ew]
 show (bif !B8 a0 then _ else bif !E9 a1 1 8 then _ else _) = _
 cases hv : B8 a0 with
 | false => rfl
 | true =>
  cases hw : E9 a1 1 8 with
  | false => rfl
  | true =>
   simp only [Bool.not_true, cond_false]
   have hr := Af6 hv hw
   have hm := Aik (n := nI a0.1.length) hr.2.1
   have hh := Nr (nI a0.1.length)
   have eb : Bj (nI a0.1.length) (A6 a0 a1).2.1 = Bv (A6 a0 a1).2.1 (nI a0.1.length) := by
    show IntKind.i64.wrap (2 + IntKind.i64.wrap ((A6 a0 a1).2.1 * An (nI a0.1.length))) = 2 + (A6 a0 a1).2.1 * An (nI a0.1.length)
    rw [Ad (n := (A6 a0 a1).2.1 * An (nI a0.1.length)) (by omega) (by omega), Ad (by omega) (by omega)]
   have ex : B9 a0 (Bj (nI a0.1.length) (Ae a0 a1).2.1) (A3 (nI a0.1.length)) (Ae a0 a1).2.2.1 (Ae a0 a1).2.2.2.1 a1 = Hd a0 a1 := by
    show Sa a0 (Bj (nI a0.1.length) (A6 a0 a1).2.1) (An (nI a0.1.length)) (A6 a0 a1).2.2.1 (A6 a0 a1).2.2.2.1 a1 = _
    rw [eb]
    rfl
   simp only [ex]
   have hx : (Hd a0 a1).1.length ≤ 1073741824 := of_decide_eq_true (Cj (Cj (Aka a0 (Bv (A6 a0 a1).2.1 (nI a0.1.length)) (An (nI a0.1.length)) (A6 a0 a1).2.2.1 (A6 a0 a1).2.2.2.1 a1)).1).1
   have hs := As8 a0 (Bv (A6 a0 a1).2.1 (nI a0.1.length)) (An (nI a0.1.length)) (A6 a0 a1).2.2.1 (A6 a0 a1).2.2.2.1 a1 hh.1 hr.2.2.2
   have hf : Kx (Hd a0 a1).1 = some (Awx (Hd a0 a1).1) := if_pos hx
   rw [hf]
   unfold Awx
   cases ho : Ns (Hd a0 a1).1 zSs with
   | none => rfl
   | some st =>
    have hst := P2 rfl ho
    replace hs : (0 ≤ (Hd a0 a1).2.1 ∧ (Hd a0 a1).2.1 ≤ An (nI a0.1.length)) ∧ (0 ≤ (Hd a0 a1).2.2.1 ∧ (Hd a0 a1).2.2.1 ≤ 60000) := hs
    clear ho hx ex hf
    have eR : Ae a0 a1 = A6 a0 a1 := rfl
    have eH : A3 (nI a0.1.length) = An (nI a0.1.length) := rfl
    rw [eR, eH]
    generalize Hd a0 a1 = x at *
    generalize A6 a0 a1 = r at *
    show (bif decide (IntKind.i64.wrap (x.2.2.1 + 1) > 60000) then _ else bif decide (R9 st a1 > IntKind.i64.wrap (An (nI a0.1.length) - 1)) then _ else bif decide (x.2.1 ≥ An (nI a0.1.length)) then _ else _) = _
    dsimp only
    rw [Ad (n := x.2.2.1 + 1) (by omega) (by omega), Af0]
    by_cases h1 : x.2.2.1 + 1 > 60000
    ·rw [decide_eq_true h1, Awt h1]; rfl
    by_cases h2 : R9 st a1 > An (nI a0.1.length) - 1
    ·rw [decide_eq_false h1, decide_eq_true h2, Awu h1 h2]; rfl
    by_cases h3 : x.2.1 < An (nI a0.1.length)
    ·rw [decide_eq_false h1, decide_eq_false h2, decide_eq_false (show ¬ x.2.1 ≥ An (nI a0.1.length) by omega), Awv h1 h2 h3]
     simp only [cond_true, cond_false]
     obtain ⟨_, hr1, hr2, hr3⟩ := hr
     have hB : 0 ≤ Bv r.2.1 (nI a0.1.length) ∧ Bv r.2.1 (nI a0.1.length) ≤ 101 := by unfold Bv; omega
     rw [eb, Ad (n := x.2.1 + 1) (by omega) (by omega), Ad (n := Bv r.2.1 (nI a0.1.length) + x.2.1) (by omega) (by omega), Ad (n := r.2.2.1 + x.2.1) (by omega) (by omega)]
     rfl
    ·rw [decide_eq_false h1, decide_eq_false h2, decide_eq_true (show x.2.1 ≥ An (nI a0.1.length) by omega), Aww h1 h2 h3]
     simp only [cond_true, cond_false]
     have e1 : Kz (a1, nI a0.1.length, x.2.2.1 + 1, r, x.2.1, 0, st, ()) = some (Af2 (a1, nI a0.1.length, x.2.2.1 + 1, r, x.2.1, 0, st, ())) := if_pos ⟨hr.1, hr.2.1, ⟨Int.le_trans (by decide) hr.2.2.1.1, Int.le_trans hr.2.2.1.2 (by decide)⟩, Nat.le_trans (Fh hst) (by decide)⟩
     refine (congrArg (fun q => Option.bind (Option.bind q _) _) e1).trans ?_
     rfl
theorem Aqo : Bo Tryz.prog 29 sd_spec_Open :=
 At (pat := Cr) [] Fu (Au (l := [(55, sd_spec_Halves), (56, sd_spec_Room), (69, sd_spec_l1Width), (70, sd_spec_ValidDisk), (76, sd_spec_FormPage), (83, sd_spec_l6Put), (84, sd_spec_l6Base), (105, sd_spec_FindRoot), (106, sd_spec_Scan), (107, sd_spec_l6Fold), (108, sd_spec_l6Move)]) ⟨Qy, Aqb, Ev, Mw, Im, f8, Ym, Aem, Aqk, All, Alp, trivial⟩) trivial Tryz.func29 (de := fun x => V7 x.1 x.2.1) (fun x r h => (Aqn x.1 x.2.1).trans h) fun _ => by kernel_rfl
end Go.Proofs.YteaoabdlcefkhaaGreat.V

