/- What the functions that FnExactRight reaches come to: part 3. No condition. -/
import Derived.Test.YteaoabdlcefkhaaGreatVFnExactRightb
import Derived.KernelRfl
namespace Go.Proofs.YteaoabdlcefkhaaGreat.V
open Go Go.Proofs.YteaoabdlcefkhaaGreat.R Go.Proofs
set_option maxRecDepth 100000
set_option linter.unusedVariables false
set_option linter.unusedSimpArgs false
def Ot (a b : Wld) : Option Bool := eqM Un a b
def Aj1 : Sig := ⟨[.rd Un, .rd Un], [some 16, some 16], [.rd .bool], [none]⟩
noncomputable def sd_laws_eqWorld : SD := ⟨Aj1, fun x => (Ot x.1 x.2.1).bind fun r => some ((r, ()), (()))⟩
noncomputable def Q0 (a0 : Wld) (a1 : Wld) : Option ((((Bool) × Unit) × (Unit))) :=
 bif a0.1 != a1.1 then some ((false, ()), ()) else ((L3 a0.2.1 a1.2.1).bind fun val => some ((val, ()), ())).bind fun val => bif !val.1.1 then some ((false, ()), ()) else bif !a0.2.2.1 == a1.2.2.1 then some ((false, ()), ()) else ((K4 a0.2.2.2.1 a1.2.2.2.1).bind fun val => some ((val, ()), ())).bind fun val => bif !val.1.1 then some ((false, ()), ()) else ((L8 a0.2.2.2.2.1 a1.2.2.2.2.1).bind fun val => some ((val, ()), ())).bind fun val => bif !val.1.1 then some ((false, ()), ()) else ((G7 a0.2.2.2.2.2.1 a1.2.2.2.2.2.1).bind fun val => some ((val, ()), ())).bind fun val => bif !val.1.1 then some ((false, ()), ()) else some ((true, ()), ())
theorem Aj2 (a0 : Wld) (a1 : Wld) r (h : Ot a0 a1 = some r) : Q0 a0 a1 = some ((r, ()), (())) := by
 obtain ⟨hc, hd, rfl⟩ := Kq (t := Un) h
 obtain ⟨hc0, hc1, hc2, hc3, hc4, hc5, _⟩ : A2 tI a0.1 = true ∧ A2 P3 a0.2.1 = true ∧ A2 .bool a0.2.2.1 = true ∧ A2 Il a0.2.2.2.1 = true ∧ A2 (.sl Bd) a0.2.2.2.2.1 = true ∧ A2 (.sl .str) a0.2.2.2.2.2.1 = true ∧ True := by
  have s := hc
  obtain ⟨h0, s⟩ := Af s
  obtain ⟨h1, s⟩ := Af s
  obtain ⟨h2, s⟩ := Af s
  obtain ⟨h3, s⟩ := Af s
  obtain ⟨h4, s⟩ := Af s
  obtain ⟨h5, s⟩ := Af s
  exact ⟨h0, h1, h2, h3, h4, h5, trivial⟩
 obtain ⟨hd0, hd1, hd2, hd3, hd4, hd5, _⟩ : A2 tI a1.1 = true ∧ A2 P3 a1.2.1 = true ∧ A2 .bool a1.2.2.1 = true ∧ A2 Il a1.2.2.2.1 = true ∧ A2 (.sl Bd) a1.2.2.2.2.1 = true ∧ A2 (.sl .str) a1.2.2.2.2.2.1 = true ∧ True := by
  have s := hd
  obtain ⟨h0, s⟩ := Af s
  obtain ⟨h1, s⟩ := Af s
  obtain ⟨h2, s⟩ := Af s
  obtain ⟨h3, s⟩ := Af s
  obtain ⟨h4, s⟩ := Af s
  obtain ⟨h5, s⟩ := Af s
  exact ⟨h0, h1, h2, h3, h4, h5, trivial⟩
 unfold Q0
 have e0 : (a0.1 != a1.1) = !Xq a0.1 a1.1 := Aid _ _
 have e1 : L3 a0.2.1 a1.2.1 = some (Mc P3 a0.2.1 a1.2.1) := Qi (t := P3) hc1 hd1
 have e1 : L3 a0.2.1 a1.2.1 = some (Mc P3 a0.2.1 a1.2.1) := e1
 have e2 : (!(a0.2.2.1 == a1.2.2.1)) = !eqO a0.2.2.1 a1.2.2.1 := rfl
 have e3 : K4 a0.2.2.2.1 a1.2.2.2.1 = some (Mc Il a0.2.2.2.1 a1.2.2.2.1) := Qi (t := Il) hc3 hd3
 have e3 : K4 a0.2.2.2.1 a1.2.2.2.1 = some (Mc Il a0.2.2.2.1 a1.2.2.2.1) := e3
 have e4 : L8 a0.2.2.2.2.1 a1.2.2.2.2.1 = some (Mc (.sl Bd) a0.2.2.2.2.1 a1.2.2.2.2.1) := Qi (t := (.sl Bd)) hc4 hd4
 have e5 : G7 a0.2.2.2.2.2.1 a1.2.2.2.2.2.1 = some (Mc (.sl .str) a0.2.2.2.2.2.1 a1.2.2.2.2.2.1) := Qi (t := (.sl .str)) hc5 hd5
 simp only [e0, e1, e2, e3, e4, e5, Option.bind_some]
 show _ = some (((Xq a0.1 a1.1 && (Mc P3 a0.2.1 a1.2.1 && (eqO a0.2.2.1 a1.2.2.1 && (Mc Il a0.2.2.2.1 a1.2.2.2.1 && (Mc (.sl Bd) a0.2.2.2.2.1 a1.2.2.2.2.1 && (Mc (.sl .str) a0.2.2.2.2.2.1 a1.2.2.2.2.2.1 && true)))))), ()), ())
 generalize Xq a0.1 a1.1 = p0
 generalize Mc P3 a0.2.1 a1.2.1 = p1
 generalize eqO a0.2.2.1 a1.2.2.1 = p2
 generalize Mc Il a0.2.2.2.1 a1.2.2.2.1 = p3
 generalize Mc (.sl Bd) a0.2.2.2.2.1 a1.2.2.2.2.1 = p4
 generalize Mc (.sl .str) a0.2.2.2.2.2.1 a1.2.2.2.2.2.1 = p5
 cases p0 <;> cases p1 <;> cases p2 <;> cases p3 <;> cases p4 <;> cases p5 <;> rfl
theorem Aj3 : Bf Tryz.prog 38 sd_laws_eqWorld :=
 Ar (pat := Ci) [] Ff (At (l := [(22, sd_laws_eqStore), (32, sd_laws_eqDisk), (118, sd_laws_eqStringS), (126, sd_laws_eqStateS)]) ⟨Ajx, Aom, Uh, Ag2, trivial⟩) trivial Tryz.func38 (de := fun x => Q0 x.1 x.2.1) (fun x r h => A3 (Aj2 x.1 x.2.1) h) fun _ => by kernel_rfl
def h9 : Sig := ⟨[.rd Un], [some 16], [.rd .bool], [none]⟩
noncomputable def Ij (a0 : Wld) : Option ((((Bool) × Unit) × (Unit))) :=
 ((Nr a0 1048576).bind fun val => some ((val, ()), ())).bind fun val => bif decide (val.1.1 < 0) then some ((true, ()), ()) else ((I9 a0).bind fun val => some ((val.1, val.2.1.1, val.2.1.2.1, val.2.2.1, val.2.2.2.1.1, val.2.2.2.1.2.1, val.2.2.2.1.2.2.1, val.2.2.2.1.2.2.2.1.1, val.2.2.2.1.2.2.2.1.2.1, val.2.2.2.1.2.2.2.1.2.2.1, val.2.2.2.1.2.2.2.1.2.2.2.1, val.2.2.2.1.2.2.2.2.1, val.2.2.2.1.2.2.2.2.2.1, val.2.2.2.1.2.2.2.2.2.2.1.1, val.2.2.2.2), ())).bind fun val => ((I9 a0).bind fun val => some ((val.1, val.2.1.1, val.2.1.2.1, val.2.2.1, val.2.2.2.1.1, val.2.2.2.1.2.1, val.2.2.2.1.2.2.1, val.2.2.2.1.2.2.2.1.1, val.2.2.2.1.2.2.2.1.2.1, val.2.2.2.1.2.2.2.1.2.2.1, val.2.2.2.1.2.2.2.1.2.2.2.1, val.2.2.2.1.2.2.2.2.1, val.2.2.2.1.2.2.2.2.2.1, val.2.2.2.1.2.2.2.2.2.2.1.1, val.2.2.2.2), ())).bind fun val_1 => bif !Om (val_1.1.1, (val_1.1.2.1, val_1.1.2.2.1, ()), val_1.1.2.2.2.1, (val_1.1.2.2.2.2.1, val_1.1.2.2.2.2.2.1, val_1.1.2.2.2.2.2.2.1, (val_1.1.2.2.2.2.2.2.2.1, val_1.1.2.2.2.2.2.2.2.2.1, val_1.1.2.2.2.2.2.2.2.2.2.1, val_1.1.2.2.2.2.2.2.2.2.2.2.1, ()), val_1.1.2.2.2.2.2.2.2.2.2.2.2.1, val_1.1.2.2.2.2.2.2.2.2.2.2.2.2.1, (val_1.1.2.2.2.2.2.2.2.2.2.2.2.2.2.1, ()), ()), val_1.1.2.2.2.2.2.2.2.2.2.2.2.2.2.2) == N2 (val.1.1, (val.1.2.1, val.1.2.2.1, ()), val.1.2.2.2.1, (val.1.2.2.2.2.1, val.1.2.2.2.2.2.1, val.1.2.2.2.2.2.2.1, (val.1.2.2.2.2.2.2.2.1, val.1.2.2.2.2.2.2.2.2.1, val.1.2.2.2.2.2.2.2.2.2.1, val.1.2.2.2.2.2.2.2.2.2.2.1, ()), val.1.2.2.2.2.2.2.2.2.2.2.2.1, val.1.2.2.2.2.2.2.2.2.2.2.2.2.1, (val.1.2.2.2.2.2.2.2.2.2.2.2.2.2.1, ()), ()), val.1.2.2.2.2.2.2.2.2.2.2.2.2.2.2) then some ((false, ()), ()) else ((I9 a0).bind fun val => some ((val.1, val.2.1.1, val.2.1.2.1, val.2.2.1, val.2.2.2.1.1, val.2.2.2.1.2.1, val.2.2.2.1.2.2.1, val.2.2.2.1.2.2.2.1.1, val.2.2.2.1.2.2.2.1.2.1, val.2.2.2.1.2.2.2.1.2.2.1, val.2.2.2.1.2.2.2.1.2.2.2.1, val.2.2.2.1.2.2.2.2.1, val.2.2.2.1.2.2.2.2.2.1, val.2.2.2.1.2.2.2.2.2.2.1.1, val.2.2.2.2), ())).bind fun val => ((Ot (val_1.1.1, (val_1.1.2.1, val_1.1.2.2.1, ()), val_1.1.2.2.2.1, (val_1.1.2.2.2.2.1, val_1.1.2.2.2.2.2.1, val_1.1.2.2.2.2.2.2.1, (val_1.1.2.2.2.2.2.2.2.1, val_1.1.2.2.2.2.2.2.2.2.1, val_1.1.2.2.2.2.2.2.2.2.2.1, val_1.1.2.2.2.2.2.2.2.2.2.2.1, ()), val_1.1.2.2.2.2.2.2.2.2.2.2.2.1, val_1.1.2.2.2.2.2.2.2.2.2.2.2.2.1, (val_1.1.2.2.2.2.2.2.2.2.2.2.2.2.2.1, ()), ()), val_1.1.2.2.2.2.2.2.2.2.2.2.2.2.2.2) (val.1.1, (val.1.2.1, val.1.2.2.1, ()), val.1.2.2.2.1, (val.1.2.2.2.2.1, val.1.2.2.2.2.2.1, val.1.2.2.2.2.2.2.1, (val.1.2.2.2.2.2.2.2.1, val.1.2.2.2.2.2.2.2.2.1, val.1.2.2.2.2.2.2.2.2.2.1, val.1.2.2.2.2.2.2.2.2.2.2.1, ()), val.1.2.2.2.2.2.2.2.2.2.2.2.1, val.1.2.2.2.2.2.2.2.2.2.2.2.2.1, (val.1.2.2.2.2.2.2.2.2.2.2.2.2.2.1, ()), ()), val.1.2.2.2.2.2.2.2.2.2.2.2.2.2.2)).bind fun val => some ((val, ()), ())).bind fun val => bif !val.1.1 then some ((false, ()), ()) else some ((true, ()), ())
noncomputable def sd_laws_FnExactRight : SD := ⟨h9, fun x => Ij x.1⟩
theorem Ag3 (a0 : Wld) (h0 : Acs Un a0) : Ij a0 = some ((true, ()), ()) := by
 have hf0 := Akm h0
 unfold Ij
 rcases A1v (l0 := 1048576) hf0 (by first | decide | assumption) (by first | decide | assumption) (m := Nr a0 1048576) rfl with e0 | ⟨l0, e0, g0, k0, s0, q0⟩
 ·simp only [e0, Option.bind_some, A5a, cond_true]
 ·skip
  have t0 : I9 a0 = some a0 := Up (t := Un) (x := a0) s0
  have u0 : Ot a0 a0 = some true := A1u (t := Un) (x := a0) hf0
  simp only [e0, q0, t0, u0, Option.bind_some, cond_false, cond_true, beq_self_eq_true, bne_self_eq_false, Bool.not_true, Bool.or_self, Om, N2]
theorem i6 : Bf Tryz.prog 6 sd_laws_FnExactRight :=
 Ar (pat := Ci) [] Ff (At (l := [(34, sd_laws_szWorld), (35, sd_spec_Right), (36, sd_laws_toWorld), (37, sd_impl_Right), (38, sd_laws_eqWorld)]) ⟨Ais, Aph, Ajg, Apy, Aj3, trivial⟩) trivial Tryz.func6 (de := fun x => Ij x.1) (fun x r h => h) fun _ => by kernel_rfl
end Go.Proofs.YteaoabdlcefkhaaGreat.V

