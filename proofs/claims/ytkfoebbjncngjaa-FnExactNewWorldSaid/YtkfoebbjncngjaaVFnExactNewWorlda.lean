/- What the functions that FnExactNewWorld reaches come to: part 1. No condition. -/
import Derived.Test.YtkfoebbjncngjaaQBase
import Derived.Test.YtkfoebbjncngjaaTLay
import Derived.Test.YtkfoebbjncngjaaProg
import Derived.Test.YtkfoebbjncngjaaQS
import Derived.KernelRfl
namespace Go.Proofs.Ytkfoebbjncngjaa.V
open Go Go.Proofs.Ytkfoebbjncngjaa.R Go.Proofs
set_option maxRecDepth 100000
set_option linter.unusedVariables false
set_option linter.unusedSimpArgs false
def Qv : Sig := ⟨[.rd tI], [none], [.rd .bool], [none]⟩
noncomputable def Ec (a0 : Int) : Option ((((Bool) × Unit) × (Unit))) :=
 bif decide (a0 ≥ 1) then some ((decide (a0 ≤ 8), ()), ()) else some ((false, ()), ())
noncomputable def sd_spec_l1Width : SD := ⟨Qv, fun x => Ec x.1⟩
theorem Qw : Db Try.prog 86 sd_spec_l1Width :=
 B2 (pat := D8) [] Jz (B1 (l := []) trivial) trivial Try.func86 (de := fun x => Ec x.1) (fun x r h => h) fun _ => by kernel_rfl
def Dq : ByteArray := zS
def Qx : Sig := ⟨[], [], [.rd .str], [none]⟩
noncomputable def sd_spec_l2Zeros : SD := ⟨Qx, fun x => some (((Dq), ()), (()))⟩
noncomputable def Jn  : Option ((((ByteArray) × Unit) × (Unit))) :=
 some ((strOfNums (List.replicate (Int.toNat 64) 0), ()), ())
theorem Qy  : Jn  = some ((Dq, ()), (())) := rfl
theorem Qz : Db Try.prog 123 sd_spec_l2Zeros :=
 B2 (pat := D8) [] Jz (B1 (l := []) trivial) trivial Try.func123 (de := fun x => Jn ) (fun x r h => (Qy ).trans h) fun _ => by kernel_rfl
def A3 (n : Int) : Dk := Eb n
def Q0 : Sig := ⟨[.rd tI], [none], [.own 9 .str, .own 140 Df], [some 2]⟩
noncomputable def sd_spec_NewDisk : SD := ⟨Q0, fun x => some (((A3 x.1).1, (A3 x.1).2.1, ()), (()))⟩
noncomputable def ta_spec_NewDisk : Tb := tb [(123, sd_spec_l2Zeros)]
def pa_spec_NewDisk : Nat → Pat × (Nat → Pat) := Lh [(6, ⟨[.boxRow 2 0 9 .str, .boxRow 2 1 140 Df, .boxRow 3 0 9 .str, .boxRow 3 1 140 Df], [(0, .lf (.d tI)), (2, .lf (.ptr 0 0)), (3, .lf (.ptr 1 0)), (4, .lf (.d tI))], [.box 60 [.row 2, .row 3], .box 60 [.row 4, .row 5], .row 9 .str, .row 140 Df, .row 9 .str, .row 140 Df]⟩, [(2, ⟨[.boxRow 2 0 9 .str, .boxRow 2 1 140 Df, .boxRow 3 0 9 .str, .boxRow 3 1 140 Df], [(2, .lf (.ptr 0 0)), (3, .lf (.ptr 1 0))], [.box 60 [.row 2, .row 3], .box 60 [.row 4, .row 5], .row 9 .str, .row 140 Df, .row 9 .str, .row 140 Df]⟩)])]
noncomputable def co_spec_NewDisk_6 : Code := (Bb (C6 Try.f88)).getD 0 .skip
def Bm (v0 : Int) (v4 : Int) (r2 : List ByteArray) (r3 : List Wr) (r4 : List ByteArray) (r5 : List Wr) : Nat := (v0 - v4).toNat + 1
noncomputable def Cu {R : Type}  (NX : ((Int) × (Int) × (List ByteArray) × (List Wr) × (List ByteArray) × (List Wr) × Unit) → Option R) (X2 : ((List ByteArray) × (List Wr) × (List ByteArray) × (List Wr) × Unit) → Option R) (v0 : Int) (v4 : Int) (r2 : List ByteArray) (r3 : List Wr) (r4 : List ByteArray) (r5 : List Wr) : Option R :=
 bif decide (v4 < v0) then bif decide ((r4.length + [Dq].length) * 16 ≤ 140737488355328) then NX (v0, IntKind.i64.wrap (v4 + 1), r2, r3, r4 ++ [Dq], r5, ()) else none else X2 (r2, r3, r4, r5, ())
noncomputable def Av : Nat → (Int) → (Int) → (List ByteArray) → (List Wr) → (List ByteArray) → (List Wr) →  Option ((List ByteArray) × (List Wr) × (List ByteArray) × (List Wr) × Unit)
 | 0, _, _, _, _, _, _ => none
 | m + 1, v0, v4, r2, r3, r4, r5 => Cu  (fun d => Av m d.1 d.2.1 d.2.2.1 d.2.2.2.1 d.2.2.2.2.1 d.2.2.2.2.2.1) (fun d => some (d)) v0 v4 r2 r3 r4 r5
noncomputable def F8 (a0 : Int) : Option ((Dk × (Unit))) :=
 bif decide (a0 < 8) then some (([], [], ()), ()) else bif decide (a0 > 200) then some (([], [], ()), ()) else ((fun d => Av (Bm d.1 d.2.1 d.2.2.1 d.2.2.2.1 d.2.2.2.2.1 d.2.2.2.2.2.1) d.1 d.2.1 d.2.2.1 d.2.2.2.1 d.2.2.2.2.1 d.2.2.2.2.2.1) (a0, 0, [], [], [], [], ())).bind fun val => some (val.2.2, ())
theorem Q1 (a0 : Int) : F8 a0 = some (((A3 a0).1, (A3 a0).2.1, ()), (())) := by
 unfold F8 A3 Eb J0
 by_cases k1 : 8 ≤ a0
 ·have n1 : ¬ a0 < 8 := by omega
  rw [decide_eq_true k1, decide_eq_false n1]
  by_cases k2 : a0 ≤ 200
  ·have n2 : ¬ a0 > 200 := by omega
   rw [decide_eq_true k2, decide_eq_false n2]
   obtain ⟨n, rfl⟩ : ∃ n : Nat, a0 = (n : Int) := ⟨a0.toNat, by omega⟩
   have hL := Tl (n := n) (fun _ => zS) (g := fun m i r => Av m n i [] [] r []) (ok := fun r => ([], [], r, [], ())) (fun m i r hi hr => by
    show Av (m + 1) n i [] [] r [] = _
    simp only [Av, Cu]
    have c1 : (i : Int) < (n : Int) := by omega
    have c2 : (List.length r + List.length [Dq]) * 16 ≤ 140737488355328 := by simp; omega
    rw [decide_eq_true c1, wI (show i < 4611686018427387904 by omega), decide_eq_true c2]
    rfl) (fun m r => by
    show Av (m + 1) n n [] [] r [] = _
    simp only [Av, Cu]
    have c1 : ¬ (n : Int) < (n : Int) := by omega
    rw [decide_eq_false c1]
    rfl) (Bm n 0 [] [] [] []) 0 [] (by omega) (by simp [Bm]) rfl
   have hL' : Av (Bm n 0 [] [] [] []) n 0 [] [] [] [] = _ := hL
   show (Av (Bm n 0 [] [] [] []) n 0 [] [] [] []).bind _ = _
   rw [hL', Kr, Nat.sub_zero]
   rfl
  ·have n2 : a0 > 200 := by omega
   rw [decide_eq_false k2, decide_eq_true n2]
   rfl
 ·have n1 : a0 < 8 := by omega
  rw [decide_eq_false k1, decide_eq_true n1]
  rfl
noncomputable def Ht {R : Type} (k : Kt R) := (Tj (pa_spec_NewDisk 6) (.exit 0) 2 k)
noncomputable def Ks {R : Type} : Lt R pa_spec_NewDisk := (Mi (pat := pa_spec_NewDisk) 6 (fun d k => (Av (Bm d.1 d.2.1 d.2.2.1 d.2.2.2.1 d.2.2.2.2.1 d.2.2.2.2.2.1) d.1 d.2.1 d.2.2.1 d.2.2.2.1 d.2.2.2.2.1 d.2.2.2.2.2.1).bind (Ht k)) Jz)
theorem Jo : A2 Try.prog ta_spec_NewDisk := B1 ⟨Qz, trivial⟩
theorem N3 {R : Type} : Cb Try.prog R 25 0 pa_spec_NewDisk Ks co_spec_NewDisk_6 :=
 G3 (cfg := ⟨ta_spec_NewDisk, 0, 25, pa_spec_NewDisk⟩) 6 [] (fun NX X d => Cu  NX X d.1 d.2.1 d.2.2.1 d.2.2.2.1 d.2.2.2.2.1 d.2.2.2.2.2.1) (fun m d => Av m d.1 d.2.1 d.2.2.1 d.2.2.2.1 d.2.2.2.2.1 d.2.2.2.2.2.1) (fun d => Bm d.1 d.2.1 d.2.2.1 d.2.2.2.1 d.2.2.2.2.1 d.2.2.2.2.2.1) Ht Jo trivial (fun f NX d => by unfold Cu; simp only [By, Ci, Bh, Option.bind_assoc, Option.bind_none, Option.bind_some]) (fun _ _ _ => by kernel_rfl)
theorem Q2 : Db Try.prog 88 sd_spec_NewDisk :=
 B2 (pat := pa_spec_NewDisk) [co_spec_NewDisk_6] Ks Jo ⟨N3, trivial⟩ Try.func88 (de := fun x => F8 x.1) (fun x r h => (Q1 x.1).trans h) fun _ => by kernel_rfl
def Pp : Sig := ⟨[.rd tI, .rd tI], [none, none], [.rd tI, .own 9 .str, .own 140 Df, .rd .bool, .rd tI, .rd tI, .rd tI, .rd tI, .rd tI, .rd tI, .rd tI, .rd tI, .rd tI, .rd (.sl B8), .rd (.sl Cc), .own 9 .str], [some 16]⟩
noncomputable def Ce (a0 : Int) (a1 : Int) : Option ((((Int) × (List ByteArray) × (List Wr) × (Bool) × (Int) × (Int) × (Int) × (Int) × (Int) × (Int) × (Int) × (Int) × (Int) × (List Pr2) × (List Stt) × (List ByteArray) × Unit) × (Unit))) :=
 bif nI (A3 a0).1.length == 0 then some ((0, [], [], false, 0, 0, 0, 0, 0, 0, 0, 0, 0, [], [], [], ()), ()) else (Ec a1).bind fun val => bif !val.1.1 then some ((0, [], [], false, 0, 0, 0, 0, 0, 0, 0, 0, 0, [], [], [], ()), ()) else some ((a1, (A3 a0).1, (A3 a0).2.1, false, 0, 0, 0, 0, 0, 0, 0, 0, 0, [], [([], ())], [], ()), ())
noncomputable def sd_spec_NewWorld : SD := ⟨Pp, fun x => Ce x.1 x.2.1⟩
theorem Pq : Db Try.prog 33 sd_spec_NewWorld :=
 B2 (pat := D8) [] Jz (B1 (l := [(86, sd_spec_l1Width), (88, sd_spec_NewDisk)]) ⟨Qw, Q2, trivial⟩) trivial Try.func33 (de := fun x => Ce x.1 x.2.1) (fun x r h => h) fun _ => by kernel_rfl
def N4 : Sig := ⟨[.rd .str, .rd (.int .i64)], [none, none], [.rd .str], [none]⟩
noncomputable def E0 : SD := ⟨N4, fun x => (Pk x.1 x.2.1).bind fun r => some ((r, ()), ())⟩
theorem N5 : C9 Try.prog 79 ∧ J6 Try.prog 79 E0.sg E0.den := ⟨⟨_, Try.func79, by kernel_rfl, by kernel_rfl⟩, y8⟩
def De (v lo hi : Int) : Bool := J0 v lo hi
def Ze : Sig := ⟨[.rd tI, .rd tI, .rd tI], [none, none, none], [.rd .bool], [none]⟩
noncomputable def sd_impl_in : SD := ⟨Ze, fun x => some (((De x.1 x.2.1 x.2.2.1), ()), (()))⟩
noncomputable def Ml (a0 : Int) (a1 : Int) (a2 : Int) : Option ((((Bool) × Unit) × (Unit))) :=
 bif decide (a0 ≥ a1) then some ((decide (a0 ≤ a2), ()), ()) else some ((false, ()), ())
theorem Zf (a0 a1 a2 : Int) : Ml a0 a1 a2 = some ((De a0 a1 a2, ()), ()) := by
 unfold Ml De J0
 by_cases h : a0 ≥ a1
 ·have : decide (a1 ≤ a0) = true := by simpa using h
  simp [h, this]
 ·have : decide (a1 ≤ a0) = false := by simpa using h
  simp [h, this]
theorem Tp : Db Try.prog 83 sd_impl_in :=
 B2 (pat := D8) [] Jz (B1 (l := []) trivial) trivial Try.func83 (de := fun x => Ml x.1 x.2.1 x.2.2.1) (fun x r h => (Zf x.1 x.2.1 x.2.2.1).trans h) fun _ => by kernel_rfl
def B3 (n : Int) : Dk := Eb n
def Q3 : Sig := ⟨[.rd tI], [none], [.own 9 .str, .own 140 Df], [some 2]⟩
noncomputable def sd_impl_NewDisk : SD := ⟨Q3, fun x => some (((B3 x.1).1, (B3 x.1).2.1, ()), (()))⟩
noncomputable def ta_impl_NewDisk : Tb := tb [(79, E0), (83, sd_impl_in)]
def pa_impl_NewDisk : Nat → Pat × (Nat → Pat) := Lh [(6, ⟨[.boxRow 2 0 9 .str, .boxRow 2 1 140 Df, .boxRow 3 0 9 .str, .boxRow 3 1 140 Df], [(0, .lf (.d tI)), (2, .lf (.ptr 0 0)), (3, .lf (.ptr 1 0)), (4, .lf (.d tI))], [.box 60 [.row 2, .row 3], .box 60 [.row 4, .row 5], .row 9 .str, .row 140 Df, .row 9 .str, .row 140 Df]⟩, [(2, ⟨[.boxRow 2 0 9 .str, .boxRow 2 1 140 Df, .boxRow 3 0 9 .str, .boxRow 3 1 140 Df], [(2, .lf (.ptr 0 0)), (3, .lf (.ptr 1 0))], [.box 60 [.row 2, .row 3], .box 60 [.row 4, .row 5], .row 9 .str, .row 140 Df, .row 9 .str, .row 140 Df]⟩)])]
noncomputable def co_impl_NewDisk_6 : Code := (Bb (C6 Try.f44)).getD 0 .skip
def Bn (v0 : Int) (v4 : Int) (r2 : List ByteArray) (r3 : List Wr) (r4 : List ByteArray) (r5 : List Wr) : Nat := (v0 - v4).toNat + 1
noncomputable def Cv {R : Type}  (NX : ((Int) × (Int) × (List ByteArray) × (List Wr) × (List ByteArray) × (List Wr) × Unit) → Option R) (X2 : ((List ByteArray) × (List Wr) × (List ByteArray) × (List Wr) × Unit) → Option R) (v0 : Int) (v4 : Int) (r2 : List ByteArray) (r3 : List Wr) (r4 : List ByteArray) (r5 : List Wr) : Option R :=
 bif decide (v4 < v0) then ((Pk (ByteArray.mk #[0]) 64).bind fun val => some ((val, ()), ())).bind fun val => bif decide ((r4.length + [val.1.1].length) * 16 ≤ 140737488355328) then NX (v0, IntKind.i64.wrap (v4 + 1), r2, r3, r4 ++ [val.1.1], r5, ()) else none else X2 (r2, r3, r4, r5, ())
noncomputable def Aw : Nat → (Int) → (Int) → (List ByteArray) → (List Wr) → (List ByteArray) → (List Wr) →  Option ((List ByteArray) × (List Wr) × (List ByteArray) × (List Wr) × Unit)
 | 0, _, _, _, _, _, _ => none
 | m + 1, v0, v4, r2, r3, r4, r5 => Cv  (fun d => Aw m d.1 d.2.1 d.2.2.1 d.2.2.2.1 d.2.2.2.2.1 d.2.2.2.2.2.1) (fun d => some (d)) v0 v4 r2 r3 r4 r5
noncomputable def F9 (a0 : Int) : Option ((Dk × (Unit))) :=
 bif !De a0 8 200 then some (([], [], ()), ()) else ((fun d => Aw (Bn d.1 d.2.1 d.2.2.1 d.2.2.2.1 d.2.2.2.2.1 d.2.2.2.2.2.1) d.1 d.2.1 d.2.2.1 d.2.2.2.1 d.2.2.2.2.1 d.2.2.2.2.2.1) (a0, 0, [], [], [], [], ())).bind fun val => some (val.2.2, ())
theorem Ac0 : Pk (ByteArray.mk #[0]) 64 = some zS := by
 unfold Pk
 rw [if_pos (by decide)]
 decide +kernel
theorem Q4 (a0 : Int) : F9 a0 = some (((B3 a0).1, (B3 a0).2.1, ()), (())) := by
 unfold F9 B3 Eb
 show (bif !J0 a0 8 200 then _ else _) = _
 cases hin : J0 a0 8 200 with
 | false => rfl
 | true =>
  have k1 := of_decide_eq_true (Jw hin).1
  have k2 := of_decide_eq_true (Jw hin).2
  obtain ⟨n, rfl⟩ : ∃ n : Nat, a0 = (n : Int) := ⟨a0.toNat, by omega⟩
  have hL := Tl (n := n) (fun _ => zS) (g := fun m i r => Aw m n i [] [] r []) (ok := fun r => ([], [], r, [], ())) (fun m i r hi hr => by
   show Aw (m + 1) n i [] [] r [] = _
   simp only [Aw, Cv]
   have c1 : (i : Int) < (n : Int) := by omega
   have c2 : (List.length r + List.length [zS]) * 16 ≤ 140737488355328 := by simp; omega
   rw [decide_eq_true c1, Ac0, wI (show i < 4611686018427387904 by omega)]
   simp only [Option.bind_some, cond_true]
   rw [decide_eq_true c2]
   rfl) (fun m r => by
   show Aw (m + 1) n n [] [] r [] = _
   simp only [Aw, Cv]
   have c1 : ¬ (n : Int) < (n : Int) := by omega
   rw [decide_eq_false c1]
   rfl) (Bn n 0 [] [] [] []) 0 [] (by omega) (by simp [Bn]) rfl
  have hL' : Aw (Bn n 0 [] [] [] []) n 0 [] [] [] [] = _ := hL
  show (Aw (Bn n 0 [] [] [] []) n 0 [] [] [] []).bind _ = _
  rw [hL', Kr, Nat.sub_zero]
  rfl
noncomputable def Hu {R : Type} (k : Kt R) := (Tj (pa_impl_NewDisk 6) (.exit 0) 2 k)
noncomputable def Ku {R : Type} : Lt R pa_impl_NewDisk := (Mi (pat := pa_impl_NewDisk) 6 (fun d k => (Aw (Bn d.1 d.2.1 d.2.2.1 d.2.2.2.1 d.2.2.2.2.1 d.2.2.2.2.2.1) d.1 d.2.1 d.2.2.1 d.2.2.2.1 d.2.2.2.2.1 d.2.2.2.2.2.1).bind (Hu k)) Jz)
theorem Jp : A2 Try.prog ta_impl_NewDisk := B1 ⟨N5, Tp, trivial⟩
theorem N6 {R : Type} : Cb Try.prog R 22 0 pa_impl_NewDisk Ku co_impl_NewDisk_6 :=
 G3 (cfg := ⟨ta_impl_NewDisk, 0, 22, pa_impl_NewDisk⟩) 6 [] (fun NX X d => Cv  NX X d.1 d.2.1 d.2.2.1 d.2.2.2.1 d.2.2.2.2.1 d.2.2.2.2.2.1) (fun m d => Aw m d.1 d.2.1 d.2.2.1 d.2.2.2.1 d.2.2.2.2.1 d.2.2.2.2.2.1) (fun d => Bn d.1 d.2.1 d.2.2.1 d.2.2.2.1 d.2.2.2.2.1 d.2.2.2.2.2.1) Hu Jp trivial (fun f NX d => by unfold Cv; simp only [By, Ci, Bh, Option.bind_assoc, Option.bind_none, Option.bind_some]) (fun _ _ _ => by kernel_rfl)
theorem Q5 : Db Try.prog 44 sd_impl_NewDisk :=
 B2 (pat := pa_impl_NewDisk) [co_impl_NewDisk_6] Ku Jp ⟨N6, trivial⟩ Try.func44 (de := fun x => F9 x.1) (fun x r h => (Q4 x.1).trans h) fun _ => by kernel_rfl
def Ps : Sig := ⟨[.rd tI, .rd tI], [none, none], [.rd tI, .own 9 .str, .own 140 Df, .rd .bool, .rd tI, .rd tI, .rd tI, .rd tI, .rd tI, .rd tI, .rd tI, .rd tI, .rd tI, .rd (.sl B8), .rd (.sl Cc), .own 9 .str], [some 16]⟩
noncomputable def Bz (a0 : Int) (a1 : Int) : Option ((((Int) × (List ByteArray) × (List Wr) × (Bool) × (Int) × (Int) × (Int) × (Int) × (Int) × (Int) × (Int) × (Int) × (Int) × (List Pr2) × (List Stt) × (List ByteArray) × Unit) × (Unit))) :=
 bif !De a0 8 200 then some ((0, [], [], false, 0, 0, 0, 0, 0, 0, 0, 0, 0, [], [], [], ()), ()) else bif !De a1 1 8 then some ((0, [], [], false, 0, 0, 0, 0, 0, 0, 0, 0, 0, [], [], [], ()), ()) else some ((a1, (B3 a0).1, (B3 a0).2.1, false, 0, 0, 0, 0, 0, 0, 0, 0, 0, [], [([], ())], [], ()), ())
noncomputable def sd_impl_NewWorld : SD := ⟨Ps, fun x => Bz x.1 x.2.1⟩
theorem Pt : Db Try.prog 34 sd_impl_NewWorld :=
 B2 (pat := D8) [] Jz (B1 (l := [(44, sd_impl_NewDisk), (83, sd_impl_in)]) ⟨Q5, Tp, trivial⟩) trivial Try.func34 (de := fun x => Bz x.1 x.2.1) (fun x r h => h) fun _ => by kernel_rfl
def Cf (a b : List ByteArray) : Option Bool := Yb (.sl .str) a b
def N7 : Sig := ⟨[.rd (.sl .str), .rd (.sl .str)], [none, none], [.rd .bool], [none]⟩
noncomputable def sd_laws_eqStringS : SD := ⟨N7, fun x => (Cf x.1 x.2.1).bind fun r => some ((r, ()), (()))⟩
noncomputable def ta_laws_eqStringS : Tb := tb []
def pa_laws_eqStringS : Nat → Pat × (Nat → Pat) := Lh [(5, ⟨[.sl 0 0 .str, .sl 1 0 .str], [(0, .lf (.d (.sl .str))), (1, .lf (.d (.sl .str))), (5, .lf (.d tI))], []⟩, [(2, p0), (1, ⟨[], [(4, .lf (.d .bool))], []⟩)])]
noncomputable def co_laws_eqStringS_5 : Code := (Bb (C6 Try.f92)).getD 0 .skip
def Bd (v0 : List ByteArray) (v1 : List ByteArray) (v5 : Int) : Nat := ((v0.length : Int) - v5).toNat + 1
noncomputable def B9 {R : Type}  (NX : ((List ByteArray) × (List ByteArray) × (Int) × Unit) → Option R) (X2 : (Unit) → Option R) (X1 : ((Bool) × Unit) → Option R) (v0 : List ByteArray) (v1 : List ByteArray) (v5 : Int) : Option R :=
 bif decide (v5 < nI v0.length) then bif decide (0 ≤ v5) then bif decide (v5 < nI v0.length) then bif decide (0 ≤ v5) then bif decide (v5 < nI v1.length) then bif !ByteArray.toList (v0.getD v5.toNat (ByteArray.mk #[])) == ByteArray.toList (v1.getD v5.toNat (ByteArray.mk #[])) then X1 (false, ()) else NX (v0, v1, IntKind.i64.wrap (v5 + 1), ()) else none else none else none else none else X2 PUnit.unit
noncomputable def Ar : Nat → (List ByteArray) → (List ByteArray) → (Int) →  Option ((Unit) ⊕ ((Bool) × Unit))
 | 0, _, _, _ => none
 | m + 1, v0, v1, v5 => B9  (fun d => Ar m d.1 d.2.1 d.2.2.1) (fun d => some (.inl (d))) (fun d => some (.inr (d))) v0 v1 v5
noncomputable def E1 (a0 : List ByteArray) (a1 : List ByteArray) : Option ((((Bool) × Unit) × (Unit))) :=
 bif nI a0.length != nI a1.length then some ((false, ()), ()) else ((fun d => Ar (Bd d.1 d.2.1 d.2.2.1) d.1 d.2.1 d.2.2.1) (a0, a1, 0, ())).bind fun val => Fe (fun d => some ((true, ()), ())) (fun d => some (d, ())) val
theorem N8 (a0 : List ByteArray) (a1 : List ByteArray) r (h : Cf a0 a1 = some r) : E1 a0 a1 = some ((r, ()), (())) := by
 obtain ⟨hc, hd, rfl⟩ := Dp (t := .sl .str) h
 obtain ⟨hlx0, hx⟩ := F1 hc
 obtain ⟨hly0, hy⟩ := F1 hd
 have hlx : a0.length < 1152921504606846976 := hlx0
 have hly : a1.length < 1152921504606846976 := hly0
 clear hlx0 hly0 hc hd h
 ·unfold E1
  by_cases hl : a1.length = a0.length
  ·have c1 : (nI a0.length != nI a1.length) = false := by simp [nI, hl]
   have hL := N2 (xs := a0) (ys := a1) (ByteArray.mk #[]) Lc (g := fun m i => Ar m a0 a1 i) (ok := .inl ()) (bad := .inr (false, ())) hl (fun m i hi => by
    show Ar (m + 1) a0 a1 i = _
    simp only [Ar, B9]
    rw [i7 hi, Wv, i7 (show i < a1.length by omega), wI (by omega)]
    simp only [cond_true, Int.toNat_natCast]
    show (bif !(ByteArray.toList (List.getD (α := ByteArray) a0 i (ByteArray.mk #[])) == ByteArray.toList (List.getD (α := ByteArray) a1 i (ByteArray.mk #[]))) then _ else _) = bif (ByteArray.toList (List.getD (α := ByteArray) a0 i (ByteArray.mk #[])) == ByteArray.toList (List.getD (α := ByteArray) a1 i (ByteArray.mk #[]))) then _ else _
    cases (ByteArray.toList (List.getD (α := ByteArray) a0 i (ByteArray.mk #[])) == ByteArray.toList (List.getD (α := ByteArray) a1 i (ByteArray.mk #[]))) <;> rfl) (fun m => by
    show Ar (m + 1) a0 a1 a0.length = _
    simp only [Ar, B9]
    rw [Wu]
    rfl) (Bd a0 a1 0) 0 (by omega) (by simp [Bd])
   rw [c1]
   have hL' : Ar (Bd a0 a1 0) a0 a1 0 = _ := hL
   show (Ar (Bd a0 a1 0) a0 a1 0).bind _ = some ((Lw (α := ByteArray) Lc a0 a1, ()), ())
   rw [hL', List.drop_zero, List.drop_zero]
   cases Lw (α := ByteArray) Lc a0 a1 <;> rfl
  ·have c1 : (nI a0.length != nI a1.length) = true := by simp [nI]; omega
   rw [c1]
   show _ = some ((Lw (α := ByteArray) Lc a0 a1, ()), ())
   rw [N1 (fun q => hl q.symm)]
   rfl
noncomputable def Gf {R : Type} (k : Kt R) := (Fe (Tj (pa_laws_eqStringS 5) (.exit 0) 2 k) (Tj (pa_laws_eqStringS 5) .ret 1 k))
noncomputable def Ir {R : Type} : Lt R pa_laws_eqStringS := (Mi (pat := pa_laws_eqStringS) 5 (fun d k => (Ar (Bd d.1 d.2.1 d.2.2.1) d.1 d.2.1 d.2.2.1).bind (Gf k)) Jz)
theorem Hv : A2 Try.prog ta_laws_eqStringS := B1 trivial
theorem Li {R : Type} : Cb Try.prog R 26 0 pa_laws_eqStringS Ir co_laws_eqStringS_5 :=
 G3 (cfg := ⟨ta_laws_eqStringS, 0, 26, pa_laws_eqStringS⟩) 5 [] (fun NX X d => B9  NX (fun e => X (.inl (e))) (fun e => X (.inr (e))) d.1 d.2.1 d.2.2.1) (fun m d => Ar m d.1 d.2.1 d.2.2.1) (fun d => Bd d.1 d.2.1 d.2.2.1) Gf Hv trivial (fun f NX d => by unfold B9; simp only [By, Ci, Bh, Option.bind_assoc, Option.bind_none, Option.bind_some]) (fun _ _ _ => by kernel_rfl)
theorem Hw : Db Try.prog 92 sd_laws_eqStringS :=
 B2 (pat := pa_laws_eqStringS) [co_laws_eqStringS_5] Ir Hv ⟨Li, trivial⟩ Try.func92 (de := fun x => E1 x.1 x.2.1) (fun x r h => Bt (N8 x.1 x.2.1) h) fun _ => by kernel_rfl
def E2 (a b : Wr) : Option Bool := Yb Df a b
def Q6 : Sig := ⟨[.rd Df, .rd Df], [some 2, some 2], [.rd .bool], [none]⟩
noncomputable def sd_laws_eqWrite : SD := ⟨Q6, fun x => (E2 x.1 x.2.1).bind fun r => some ((r, ()), (()))⟩
noncomputable def Ga (a0 : Wr) (a1 : Wr) : Option ((((Bool) × Unit) × (Unit))) :=
 bif a0.1 != a1.1 then some ((false, ()), ()) else bif !ByteArray.toList a0.2.1 == ByteArray.toList a1.2.1 then some ((false, ()), ()) else some ((true, ()), ())
theorem Q7 (a0 : Wr) (a1 : Wr) r (h : E2 a0 a1 = some r) : Ga a0 a1 = some ((r, ()), (())) := by
 obtain ⟨hc, hd, rfl⟩ := Dp (t := Df) h
 obtain ⟨hc0, hc1, _⟩ : An tI a0.1 = true ∧ An .str a0.2.1 = true ∧ True := by
  have s := hc
  obtain ⟨h0, s⟩ := Ac s
  obtain ⟨h1, s⟩ := Ac s
  exact ⟨h0, h1, trivial⟩
 obtain ⟨hd0, hd1, _⟩ : An tI a1.1 = true ∧ An .str a1.2.1 = true ∧ True := by
  have s := hd
  obtain ⟨h0, s⟩ := Ac s
  obtain ⟨h1, s⟩ := Ac s
  exact ⟨h0, h1, trivial⟩
 unfold Ga
 have e0 : (a0.1 != a1.1) = !I0 a0.1 a1.1 := Qu _ _
 have e1 : (!(ByteArray.toList a0.2.1 == ByteArray.toList a1.2.1)) = !Lc a0.2.1 a1.2.1 := rfl
 simp only [e0, e1, Option.bind_some]
 show _ = some (((I0 a0.1 a1.1 && (Lc a0.2.1 a1.2.1 && true)), ()), ())
 generalize I0 a0.1 a1.1 = p0
 generalize Lc a0.2.1 a1.2.1 = p1
 cases p0 <;> cases p1 <;> rfl
theorem Q8 : Db Try.prog 140 sd_laws_eqWrite :=
 B2 (pat := D8) [] Jz (B1 (l := []) trivial) trivial Try.func140 (de := fun x => Ga x.1 x.2.1) (fun x r h => Bt (Q7 x.1 x.2.1) h) fun _ => by kernel_rfl
def Ed (a b : List Wr) : Option Bool := Yb (.sl Df) a b
def Pu : Sig := ⟨[.rd (.sl Df), .rd (.sl Df)], [none, none], [.rd .bool], [none]⟩
noncomputable def sd_laws_eqWriteS : SD := ⟨Pu, fun x => (Ed x.1 x.2.1).bind fun r => some ((r, ()), (()))⟩
noncomputable def ta_laws_eqWriteS : Tb := tb [(140, sd_laws_eqWrite)]
def pa_laws_eqWriteS : Nat → Pat × (Nat → Pat) := Lh [(5, ⟨[.sl 0 0 Df, .sl 1 0 Df], [(0, .lf (.d (.sl Df))), (1, .lf (.d (.sl Df))), (5, .lf (.d tI))], []⟩, [(2, p0), (1, ⟨[], [(4, .lf (.d .bool))], []⟩)])]
noncomputable def co_laws_eqWriteS_5 : Code := (Bb (C6 Try.f124)).getD 0 .skip
def Bi (v0 : List Wr) (v1 : List Wr) (v5 : Int) : Nat := ((v0.length : Int) - v5).toNat + 1
noncomputable def Cj {R : Type}  (NX : ((List Wr) × (List Wr) × (Int) × Unit) → Option R) (X2 : (Unit) → Option R) (X1 : ((Bool) × Unit) → Option R) (v0 : List Wr) (v1 : List Wr) (v5 : Int) : Option R :=
 bif decide (v5 < nI v0.length) then bif decide (0 ≤ v5) then bif decide (v5 < nI v0.length) then bif decide (0 ≤ v5) then bif decide (v5 < nI v1.length) then ((E2 (v0.getD v5.toNat (0, ByteArray.mk #[], ())) (v1.getD v5.toNat (0, ByteArray.mk #[], ()))).bind fun val => some ((val, ()), ())).bind fun val => bif !val.1.1 then X1 (false, ()) else NX (v0, v1, IntKind.i64.wrap (v5 + 1), ()) else none else none else none else none else X2 PUnit.unit
noncomputable def As : Nat → (List Wr) → (List Wr) → (Int) →  Option ((Unit) ⊕ ((Bool) × Unit))
 | 0, _, _, _ => none
 | m + 1, v0, v1, v5 => Cj  (fun d => As m d.1 d.2.1 d.2.2.1) (fun d => some (.inl (d))) (fun d => some (.inr (d))) v0 v1 v5
noncomputable def Fq (a0 : List Wr) (a1 : List Wr) : Option ((((Bool) × Unit) × (Unit))) :=
 bif nI a0.length != nI a1.length then some ((false, ()), ()) else ((fun d => As (Bi d.1 d.2.1 d.2.2.1) d.1 d.2.1 d.2.2.1) (a0, a1, 0, ())).bind fun val => Fe (fun d => some ((true, ()), ())) (fun d => some (d, ())) val
theorem Pw (a0 : List Wr) (a1 : List Wr) r (h : Ed a0 a1 = some r) : Fq a0 a1 = some ((r, ()), (())) := by
 obtain ⟨hc, hd, rfl⟩ := Dp (t := .sl Df) h
 obtain ⟨hlx0, hx⟩ := F1 hc
 obtain ⟨hly0, hy⟩ := F1 hd
 have hlx : a0.length < 1152921504606846976 := hlx0
 have hly : a1.length < 1152921504606846976 := hly0
 clear hlx0 hly0 hc hd h
 ·unfold Fq
  by_cases hl : a1.length = a0.length
  ·have c1 : (nI a0.length != nI a1.length) = false := by simp [nI, hl]
   have hL := N2 (xs := a0) (ys := a1) (0, (ByteArray.mk #[]), ()) (fun x y : Wr => D1 Df x y) (g := fun m i => As m a0 a1 i) (ok := .inl ()) (bad := .inr (false, ())) hl (fun m i hi => by
    show As (m + 1) a0 a1 i = _
    simp only [As, Cj]
    rw [i7 hi, Wv, i7 (show i < a1.length by omega), wI (by omega)]
    simp only [cond_true, Int.toNat_natCast]
    have f1 : An Df (List.getD (α := Wr) a0 i (0, (ByteArray.mk #[]), ())) = true := hx _ (Ip (0, (ByteArray.mk #[]), ()) hi)
    have f2 : An Df (List.getD (α := Wr) a1 i (0, (ByteArray.mk #[]), ())) = true := hy _ (Ip (0, (ByteArray.mk #[]), ()) (by omega))
    have hE : E2 (List.getD (α := Wr) a0 i (0, (ByteArray.mk #[]), ())) (List.getD (α := Wr) a1 i (0, (ByteArray.mk #[]), ())) = some (D1 Df (List.getD (α := Wr) a0 i (0, (ByteArray.mk #[]), ())) (List.getD (α := Wr) a1 i (0, (ByteArray.mk #[]), ()))) := by
     exact F7 (t := Df) (x := (List.getD (α := Wr) a0 i (0, (ByteArray.mk #[]), ()))) (y := (List.getD (α := Wr) a1 i (0, (ByteArray.mk #[]), ()))) f1 f2
    rw [hE]
    cases q : D1 Df (List.getD (α := Wr) a0 i (0, (ByteArray.mk #[]), ())) (List.getD (α := Wr) a1 i (0, (ByteArray.mk #[]), ())) <;> simp only [Option.bind_some, q] <;> rfl) (fun m => by
    show As (m + 1) a0 a1 a0.length = _
    simp only [As, Cj]
    rw [Wu]
    rfl) (Bi a0 a1 0) 0 (by omega) (by simp [Bi])
   rw [c1]
   have hL' : As (Bi a0 a1 0) a0 a1 0 = _ := hL
   show (As (Bi a0 a1 0) a0 a1 0).bind _ = some ((Lw (α := Wr) (fun x y : Wr => D1 Df x y) a0 a1, ()), ())
   rw [hL', List.drop_zero, List.drop_zero]
   cases Lw (α := Wr) (fun x y : Wr => D1 Df x y) a0 a1 <;> rfl
  ·have c1 : (nI a0.length != nI a1.length) = true := by simp [nI]; omega
   rw [c1]
   show _ = some ((Lw (α := Wr) (fun x y : Wr => D1 Df x y) a0 a1, ()), ())
   rw [N1 (fun q => hl q.symm)]
   rfl
noncomputable def G6 {R : Type} (k : Kt R) := (Fe (Tj (pa_laws_eqWriteS 5) (.exit 0) 2 k) (Tj (pa_laws_eqWriteS 5) .ret 1 k))
noncomputable def Jq {R : Type} : Lt R pa_laws_eqWriteS := (Mi (pat := pa_laws_eqWriteS) 5 (fun d k => (As (Bi d.1 d.2.1 d.2.2.1) d.1 d.2.1 d.2.2.1).bind (G6 k)) Jz)
theorem Is : A2 Try.prog ta_laws_eqWriteS := B1 ⟨Q8, trivial⟩
theorem Mm {R : Type} : Cb Try.prog R 27 0 pa_laws_eqWriteS Jq co_laws_eqWriteS_5 :=
 G3 (cfg := ⟨ta_laws_eqWriteS, 0, 27, pa_laws_eqWriteS⟩) 5 [] (fun NX X d => Cj  NX (fun e => X (.inl (e))) (fun e => X (.inr (e))) d.1 d.2.1 d.2.2.1) (fun m d => As m d.1 d.2.1 d.2.2.1) (fun d => Bi d.1 d.2.1 d.2.2.1) G6 Is trivial (fun f NX d => by unfold Cj; simp only [By, Ci, Bh, Option.bind_assoc, Option.bind_none, Option.bind_some]) (fun _ _ _ => by kernel_rfl)
theorem Px : Db Try.prog 124 sd_laws_eqWriteS :=
 B2 (pat := pa_laws_eqWriteS) [co_laws_eqWriteS_5] Jq Is ⟨Mm, trivial⟩ Try.func124 (de := fun x => Fq x.1 x.2.1) (fun x r h => Bt (Pw x.1 x.2.1) h) fun _ => by kernel_rfl
def D9 (a b : Dk) : Option Bool := Yb Y9 a b
def Tq : Sig := ⟨[.rd Y9, .rd Y9], [some 2, some 2], [.rd .bool], [none]⟩
noncomputable def sd_laws_eqDisk : SD := ⟨Tq, fun x => (D9 x.1 x.2.1).bind fun r => some ((r, ()), (()))⟩
noncomputable def G7 (a0 : Dk) (a1 : Dk) : Option ((((Bool) × Unit) × (Unit))) :=
 ((Cf a0.1 a1.1).bind fun val => some ((val, ()), ())).bind fun val => bif !val.1.1 then some ((false, ()), ()) else ((Ed a0.2.1 a1.2.1).bind fun val => some ((val, ()), ())).bind fun val => bif !val.1.1 then some ((false, ()), ()) else some ((true, ()), ())
theorem Tr (a0 : Dk) (a1 : Dk) r (h : D9 a0 a1 = some r) : G7 a0 a1 = some ((r, ()), (())) := by
 obtain ⟨hc, hd, rfl⟩ := Dp (t := Y9) h
 obtain ⟨hc0, hc1, _⟩ : An (.sl .str) a0.1 = true ∧ An (.sl Df) a0.2.1 = true ∧ True := by
  have s := hc
  obtain ⟨h0, s⟩ := Ac s
  obtain ⟨h1, s⟩ := Ac s
  exact ⟨h0, h1, trivial⟩
 obtain ⟨hd0, hd1, _⟩ : An (.sl .str) a1.1 = true ∧ An (.sl Df) a1.2.1 = true ∧ True := by
  have s := hd
  obtain ⟨h0, s⟩ := Ac s
  obtain ⟨h1, s⟩ := Ac s
  exact ⟨h0, h1, trivial⟩
 unfold G7
 have e0 : Cf a0.1 a1.1 = some (D1 (.sl .str) a0.1 a1.1) := F7 (t := (.sl .str)) hc0 hd0
 have e1 : Ed a0.2.1 a1.2.1 = some (D1 (.sl Df) a0.2.1 a1.2.1) := F7 (t := (.sl Df)) hc1 hd1
 simp only [e0, e1, Option.bind_some]
 show _ = some (((D1 (.sl .str) a0.1 a1.1 && (D1 (.sl Df) a0.2.1 a1.2.1 && true)), ()), ())
 generalize D1 (.sl .str) a0.1 a1.1 = p0
 generalize D1 (.sl Df) a0.2.1 a1.2.1 = p1
 cases p0 <;> cases p1 <;> rfl
theorem Tt : Db Try.prog 89 sd_laws_eqDisk :=
 B2 (pat := D8) [] Jz (B1 (l := [(92, sd_laws_eqStringS), (124, sd_laws_eqWriteS)]) ⟨Hw, Px, trivial⟩) trivial Try.func89 (de := fun x => G7 x.1 x.2.1) (fun x r h => Bt (Tr x.1 x.2.1) h) fun _ => by kernel_rfl
def Fz (a b : Pr2) : Option Bool := Yb B8 a b
def Tu : Sig := ⟨[.rd B8, .rd B8], [some 2, some 2], [.rd .bool], [none]⟩
noncomputable def sd_laws_eqPair : SD := ⟨Tu, fun x => (Fz x.1 x.2.1).bind fun r => some ((r, ()), (()))⟩
noncomputable def G8 (a0 : Pr2) (a1 : Pr2) : Option ((((Bool) × Unit) × (Unit))) :=
 bif !ByteArray.toList a0.1 == ByteArray.toList a1.1 then some ((false, ()), ()) else bif !ByteArray.toList a0.2.1 == ByteArray.toList a1.2.1 then some ((false, ()), ()) else some ((true, ()), ())
theorem Tv (a0 : Pr2) (a1 : Pr2) r (h : Fz a0 a1 = some r) : G8 a0 a1 = some ((r, ()), (())) := by
 obtain ⟨hc, hd, rfl⟩ := Dp (t := B8) h
 obtain ⟨hc0, hc1, _⟩ : An .str a0.1 = true ∧ An .str a0.2.1 = true ∧ True := by
  have s := hc
  obtain ⟨h0, s⟩ := Ac s
  obtain ⟨h1, s⟩ := Ac s
  exact ⟨h0, h1, trivial⟩
 obtain ⟨hd0, hd1, _⟩ : An .str a1.1 = true ∧ An .str a1.2.1 = true ∧ True := by
  have s := hd
  obtain ⟨h0, s⟩ := Ac s
  obtain ⟨h1, s⟩ := Ac s
  exact ⟨h0, h1, trivial⟩
 unfold G8
 have e0 : (!(ByteArray.toList a0.1 == ByteArray.toList a1.1)) = !Lc a0.1 a1.1 := rfl
 have e1 : (!(ByteArray.toList a0.2.1 == ByteArray.toList a1.2.1)) = !Lc a0.2.1 a1.2.1 := rfl
 simp only [e0, e1, Option.bind_some]
 show _ = some (((Lc a0.1 a1.1 && (Lc a0.2.1 a1.2.1 && true)), ()), ())
 generalize Lc a0.1 a1.1 = p0
 generalize Lc a0.2.1 a1.2.1 = p1
 cases p0 <;> cases p1 <;> rfl
theorem Tw : Db Try.prog 115 sd_laws_eqPair :=
 B2 (pat := D8) [] Jz (B1 (l := []) trivial) trivial Try.func115 (de := fun x => G8 x.1 x.2.1) (fun x r h => Bt (Tv x.1 x.2.1) h) fun _ => by kernel_rfl
def E3 (a b : List Pr2) : Option Bool := Yb (.sl B8) a b
def Q9 : Sig := ⟨[.rd (.sl B8), .rd (.sl B8)], [none, none], [.rd .bool], [none]⟩
noncomputable def sd_laws_eqPairS : SD := ⟨Q9, fun x => (E3 x.1 x.2.1).bind fun r => some ((r, ()), (()))⟩
noncomputable def ta_laws_eqPairS : Tb := tb [(115, sd_laws_eqPair)]
def pa_laws_eqPairS : Nat → Pat × (Nat → Pat) := Lh [(5, ⟨[.sl 0 0 B8, .sl 1 0 B8], [(0, .lf (.d (.sl B8))), (1, .lf (.d (.sl B8))), (5, .lf (.d tI))], []⟩, [(2, p0), (1, ⟨[], [(4, .lf (.d .bool))], []⟩)])]
noncomputable def co_laws_eqPairS_5 : Code := (Bb (C6 Try.f58)).getD 0 .skip
def Bo (v0 : List Pr2) (v1 : List Pr2) (v5 : Int) : Nat := ((v0.length : Int) - v5).toNat + 1
noncomputable def Cw {R : Type}  (NX : ((List Pr2) × (List Pr2) × (Int) × Unit) → Option R) (X2 : (Unit) → Option R) (X1 : ((Bool) × Unit) → Option R) (v0 : List Pr2) (v1 : List Pr2) (v5 : Int) : Option R :=
 bif decide (v5 < nI v0.length) then bif decide (0 ≤ v5) then bif decide (v5 < nI v0.length) then bif decide (0 ≤ v5) then bif decide (v5 < nI v1.length) then ((Fz (v0.getD v5.toNat (ByteArray.mk #[], ByteArray.mk #[], ())) (v1.getD v5.toNat (ByteArray.mk #[], ByteArray.mk #[], ()))).bind fun val => some ((val, ()), ())).bind fun val => bif !val.1.1 then X1 (false, ()) else NX (v0, v1, IntKind.i64.wrap (v5 + 1), ()) else none else none else none else none else X2 PUnit.unit
noncomputable def Ax : Nat → (List Pr2) → (List Pr2) → (Int) →  Option ((Unit) ⊕ ((Bool) × Unit))
 | 0, _, _, _ => none
 | m + 1, v0, v1, v5 => Cw  (fun d => Ax m d.1 d.2.1 d.2.2.1) (fun d => some (.inl (d))) (fun d => some (.inr (d))) v0 v1 v5
noncomputable def Gb (a0 : List Pr2) (a1 : List Pr2) : Option ((((Bool) × Unit) × (Unit))) :=
 bif nI a0.length != nI a1.length then some ((false, ()), ()) else ((fun d => Ax (Bo d.1 d.2.1 d.2.2.1) d.1 d.2.1 d.2.2.1) (a0, a1, 0, ())).bind fun val => Fe (fun d => some ((true, ()), ())) (fun d => some (d, ())) val
theorem Ra (a0 : List Pr2) (a1 : List Pr2) r (h : E3 a0 a1 = some r) : Gb a0 a1 = some ((r, ()), (())) := by
 obtain ⟨hc, hd, rfl⟩ := Dp (t := .sl B8) h
 obtain ⟨hlx0, hx⟩ := F1 hc
 obtain ⟨hly0, hy⟩ := F1 hd
 have hlx : a0.length < 1152921504606846976 := hlx0
 have hly : a1.length < 1152921504606846976 := hly0
 clear hlx0 hly0 hc hd h
 ·unfold Gb
  by_cases hl : a1.length = a0.length
  ·have c1 : (nI a0.length != nI a1.length) = false := by simp [nI, hl]
   have hL := N2 (xs := a0) (ys := a1) ((ByteArray.mk #[]), (ByteArray.mk #[]), ()) (fun x y : Pr2 => D1 B8 x y) (g := fun m i => Ax m a0 a1 i) (ok := .inl ()) (bad := .inr (false, ())) hl (fun m i hi => by
    show Ax (m + 1) a0 a1 i = _
    simp only [Ax, Cw]
    rw [i7 hi, Wv, i7 (show i < a1.length by omega), wI (by omega)]
    simp only [cond_true, Int.toNat_natCast]
    have f1 : An B8 (List.getD (α := Pr2) a0 i ((ByteArray.mk #[]), (ByteArray.mk #[]), ())) = true := hx _ (Ip ((ByteArray.mk #[]), (ByteArray.mk #[]), ()) hi)
    have f2 : An B8 (List.getD (α := Pr2) a1 i ((ByteArray.mk #[]), (ByteArray.mk #[]), ())) = true := hy _ (Ip ((ByteArray.mk #[]), (ByteArray.mk #[]), ()) (by omega))
    have hE : Fz (List.getD (α := Pr2) a0 i ((ByteArray.mk #[]), (ByteArray.mk #[]), ())) (List.getD (α := Pr2) a1 i ((ByteArray.mk #[]), (ByteArray.mk #[]), ())) = some (D1 B8 (List.getD (α := Pr2) a0 i ((ByteArray.mk #[]), (ByteArray.mk #[]), ())) (List.getD (α := Pr2) a1 i ((ByteArray.mk #[]), (ByteArray.mk #[]), ()))) := by
     exact F7 (t := B8) (x := (List.getD (α := Pr2) a0 i ((ByteArray.mk #[]), (ByteArray.mk #[]), ()))) (y := (List.getD (α := Pr2) a1 i ((ByteArray.mk #[]), (ByteArray.mk #[]), ()))) f1 f2
    rw [hE]
    cases q : D1 B8 (List.getD (α := Pr2) a0 i ((ByteArray.mk #[]), (ByteArray.mk #[]), ())) (List.getD (α := Pr2) a1 i ((ByteArray.mk #[]), (ByteArray.mk #[]), ())) <;> simp only [Option.bind_some, q] <;> rfl) (fun m => by
    show Ax (m + 1) a0 a1 a0.length = _
    simp only [Ax, Cw]
    rw [Wu]
    rfl) (Bo a0 a1 0) 0 (by omega) (by simp [Bo])
   rw [c1]
   have hL' : Ax (Bo a0 a1 0) a0 a1 0 = _ := hL
   show (Ax (Bo a0 a1 0) a0 a1 0).bind _ = some ((Lw (α := Pr2) (fun x y : Pr2 => D1 B8 x y) a0 a1, ()), ())
   rw [hL', List.drop_zero, List.drop_zero]
   cases Lw (α := Pr2) (fun x y : Pr2 => D1 B8 x y) a0 a1 <;> rfl
  ·have c1 : (nI a0.length != nI a1.length) = true := by simp [nI]; omega
   rw [c1]
   show _ = some ((Lw (α := Pr2) (fun x y : Pr2 => D1 B8 x y) a0 a1, ()), ())
   rw [N1 (fun q => hl q.symm)]
   rfl
noncomputable def Hx {R : Type} (k : Kt R) := (Fe (Tj (pa_laws_eqPairS 5) (.exit 0) 2 k) (Tj (pa_laws_eqPairS 5) .ret 1 k))
noncomputable def Kv {R : Type} : Lt R pa_laws_eqPairS := (Mi (pat := pa_laws_eqPairS) 5 (fun d k => (Ax (Bo d.1 d.2.1 d.2.2.1) d.1 d.2.1 d.2.2.1).bind (Hx k)) Jz)
theorem Jr : A2 Try.prog ta_laws_eqPairS := B1 ⟨Tw, trivial⟩
theorem N9 {R : Type} : Cb Try.prog R 27 0 pa_laws_eqPairS Kv co_laws_eqPairS_5 :=
 G3 (cfg := ⟨ta_laws_eqPairS, 0, 27, pa_laws_eqPairS⟩) 5 [] (fun NX X d => Cw  NX (fun e => X (.inl (e))) (fun e => X (.inr (e))) d.1 d.2.1 d.2.2.1) (fun m d => Ax m d.1 d.2.1 d.2.2.1) (fun d => Bo d.1 d.2.1 d.2.2.1) Hx Jr trivial (fun f NX d => by unfold Cw; simp only [By, Ci, Bh, Option.bind_assoc, Option.bind_none, Option.bind_some]) (fun _ _ _ => by kernel_rfl)
theorem Rb : Db Try.prog 58 sd_laws_eqPairS :=
 B2 (pat := pa_laws_eqPairS) [co_laws_eqPairS_5] Kv Jr ⟨N9, trivial⟩ Try.func58 (de := fun x => Gb x.1 x.2.1) (fun x r h => Bt (Ra x.1 x.2.1) h) fun _ => by kernel_rfl
def Ck (a b : Stt) : Option Bool := Yb Cc a b
def Rc : Sig := ⟨[.rd Cc, .rd Cc], [some 1, some 1], [.rd .bool], [none]⟩
noncomputable def sd_laws_eqState : SD := ⟨Rc, fun x => (Ck x.1 x.2.1).bind fun r => some ((r, ()), (()))⟩
noncomputable def Gc (a0 : Stt) (a1 : Stt) : Option ((((Bool) × Unit) × (Unit))) :=
 ((E3 a0.1 a1.1).bind fun val => some ((val, ()), ())).bind fun val => bif !val.1.1 then some ((false, ()), ()) else some ((true, ()), ())
theorem Rd (a0 : Stt) (a1 : Stt) r (h : Ck a0 a1 = some r) : Gc a0 a1 = some ((r, ()), (())) := by
 obtain ⟨hc, hd, rfl⟩ := Dp (t := Cc) h
 obtain ⟨hc0, _⟩ : An (.sl B8) a0.1 = true ∧ True := by
  have s := hc
  obtain ⟨h0, s⟩ := Ac s
  exact ⟨h0, trivial⟩
 obtain ⟨hd0, _⟩ : An (.sl B8) a1.1 = true ∧ True := by
  have s := hd
  obtain ⟨h0, s⟩ := Ac s
  exact ⟨h0, trivial⟩
 unfold Gc
 have e0 : E3 a0.1 a1.1 = some (D1 (.sl B8) a0.1 a1.1) := F7 (t := (.sl B8)) hc0 hd0
 simp only [e0, Option.bind_some]
 show _ = some (((D1 (.sl B8) a0.1 a1.1 && true), ()), ())
 generalize D1 (.sl B8) a0.1 a1.1 = p0
 cases p0 <;> rfl
theorem Js : Db Try.prog 14 sd_laws_eqState :=
 B2 (pat := D8) [] Jz (B1 (l := [(58, sd_laws_eqPairS)]) ⟨Rb, trivial⟩) trivial Try.func14 (de := fun x => Gc x.1 x.2.1) (fun x r h => Bt (Rd x.1 x.2.1) h) fun _ => by kernel_rfl
def Lx (a b : Rt) : Option Bool := Yb yRt a b
def Tx : Sig := ⟨[.rd yRt, .rd yRt], [some 4, some 4], [.rd .bool], [none]⟩
noncomputable def sd_laws_eqRoot : SD := ⟨Tx, fun x => (Lx x.1 x.2.1).bind fun r => some ((r, ()), (()))⟩
noncomputable def G9 (a0 : Rt) (a1 : Rt) : Option ((((Bool) × Unit) × (Unit))) :=
 bif a0.1 != a1.1 then some ((false, ()), ()) else bif a0.2.1 != a1.2.1 then some ((false, ()), ()) else bif a0.2.2.1 != a1.2.2.1 then some ((false, ()), ()) else bif a0.2.2.2.1 != a1.2.2.2.1 then some ((false, ()), ()) else some ((true, ()), ())
theorem Tz (a0 : Rt) (a1 : Rt) r (h : Lx a0 a1 = some r) : G9 a0 a1 = some ((r, ()), (())) := by
 obtain ⟨hc, hd, rfl⟩ := Dp (t := yRt) h
 obtain ⟨hc0, hc1, hc2, hc3, _⟩ : An tI a0.1 = true ∧ An tI a0.2.1 = true ∧ An tI a0.2.2.1 = true ∧ An tI a0.2.2.2.1 = true ∧ True := by
  have s := hc
  obtain ⟨h0, s⟩ := Ac s
  obtain ⟨h1, s⟩ := Ac s
  obtain ⟨h2, s⟩ := Ac s
  obtain ⟨h3, s⟩ := Ac s
  exact ⟨h0, h1, h2, h3, trivial⟩
 obtain ⟨hd0, hd1, hd2, hd3, _⟩ : An tI a1.1 = true ∧ An tI a1.2.1 = true ∧ An tI a1.2.2.1 = true ∧ An tI a1.2.2.2.1 = true ∧ True := by
  have s := hd
  obtain ⟨h0, s⟩ := Ac s
  obtain ⟨h1, s⟩ := Ac s
  obtain ⟨h2, s⟩ := Ac s
  obtain ⟨h3, s⟩ := Ac s
  exact ⟨h0, h1, h2, h3, trivial⟩
 unfold G9
 have e0 : (a0.1 != a1.1) = !I0 a0.1 a1.1 := Qu _ _
 have e1 : (a0.2.1 != a1.2.1) = !I0 a0.2.1 a1.2.1 := Qu _ _
 have e2 : (a0.2.2.1 != a1.2.2.1) = !I0 a0.2.2.1 a1.2.2.1 := Qu _ _
 have e3 : (a0.2.2.2.1 != a1.2.2.2.1) = !I0 a0.2.2.2.1 a1.2.2.2.1 := Qu _ _
 simp only [e0, e1, e2, e3, Option.bind_some]
 show _ = some (((I0 a0.1 a1.1 && (I0 a0.2.1 a1.2.1 && (I0 a0.2.2.1 a1.2.2.1 && (I0 a0.2.2.2.1 a1.2.2.2.1 && true)))), ()), ())
 generalize I0 a0.1 a1.1 = p0
 generalize I0 a0.2.1 a1.2.1 = p1
 generalize I0 a0.2.2.1 a1.2.2.1 = p2
 generalize I0 a0.2.2.2.1 a1.2.2.2.1 = p3
 cases p0 <;> cases p1 <;> cases p2 <;> cases p3 <;> rfl
theorem T1 : Db Try.prog 125 sd_laws_eqRoot :=
 B2 (pat := D8) [] Jz (B1 (l := []) trivial) trivial Try.func125 (de := fun x => G9 x.1 x.2.1) (fun x r h => Bt (Tz x.1 x.2.1) h) fun _ => by kernel_rfl
def Dr (a b : Sto) : Option Bool := Yb Nz a b
def Re : Sig := ⟨[.rd Nz, .rd Nz], [some 10, some 10], [.rd .bool], [none]⟩
noncomputable def sd_laws_eqStore : SD := ⟨Re, fun x => (Dr x.1 x.2.1).bind fun r => some ((r, ()), (()))⟩
noncomputable def Gd (a0 : Sto) (a1 : Sto) : Option ((((Bool) × Unit) × (Unit))) :=
 bif a0.1 != a1.1 then some ((false, ()), ()) else bif a0.2.1 != a1.2.1 then some ((false, ()), ()) else bif a0.2.2.1 != a1.2.2.1 then some ((false, ()), ()) else bif !(decide (a0.2.2.2.1.1 = a1.2.2.2.1.1) && (decide (a0.2.2.2.1.2.1 = a1.2.2.2.1.2.1) && (decide (a0.2.2.2.1.2.2.1 = a1.2.2.2.1.2.2.1) && (decide (a0.2.2.2.1.2.2.2.1 = a1.2.2.2.1.2.2.2.1) && true)))) then some ((false, ()), ()) else bif a0.2.2.2.2.1 != a1.2.2.2.2.1 then some ((false, ()), ()) else bif a0.2.2.2.2.2.1 != a1.2.2.2.2.2.1 then some ((false, ()), ()) else ((Ck a0.2.2.2.2.2.2.1 a1.2.2.2.2.2.2.1).bind fun val => some ((val, ()), ())).bind fun val => bif !val.1.1 then some ((false, ()), ()) else some ((true, ()), ())
theorem Rf (a0 : Sto) (a1 : Sto) r (h : Dr a0 a1 = some r) : Gd a0 a1 = some ((r, ()), (())) := by
 obtain ⟨hc, hd, rfl⟩ := Dp (t := Nz) h
 obtain ⟨hc0, hc1, hc2, hc3, hc4, hc5, hc6, _⟩ : An tI a0.1 = true ∧ An tI a0.2.1 = true ∧ An tI a0.2.2.1 = true ∧ An yRt a0.2.2.2.1 = true ∧ An tI a0.2.2.2.2.1 = true ∧ An tI a0.2.2.2.2.2.1 = true ∧ An Cc a0.2.2.2.2.2.2.1 = true ∧ True := by
  have s := hc
  obtain ⟨h0, s⟩ := Ac s
  obtain ⟨h1, s⟩ := Ac s
  obtain ⟨h2, s⟩ := Ac s
  obtain ⟨h3, s⟩ := Ac s
  obtain ⟨h4, s⟩ := Ac s
  obtain ⟨h5, s⟩ := Ac s
  obtain ⟨h6, s⟩ := Ac s
  exact ⟨h0, h1, h2, h3, h4, h5, h6, trivial⟩
 obtain ⟨hd0, hd1, hd2, hd3, hd4, hd5, hd6, _⟩ : An tI a1.1 = true ∧ An tI a1.2.1 = true ∧ An tI a1.2.2.1 = true ∧ An yRt a1.2.2.2.1 = true ∧ An tI a1.2.2.2.2.1 = true ∧ An tI a1.2.2.2.2.2.1 = true ∧ An Cc a1.2.2.2.2.2.2.1 = true ∧ True := by
  have s := hd
  obtain ⟨h0, s⟩ := Ac s
  obtain ⟨h1, s⟩ := Ac s
  obtain ⟨h2, s⟩ := Ac s
  obtain ⟨h3, s⟩ := Ac s
  obtain ⟨h4, s⟩ := Ac s
  obtain ⟨h5, s⟩ := Ac s
  obtain ⟨h6, s⟩ := Ac s
  exact ⟨h0, h1, h2, h3, h4, h5, h6, trivial⟩
 unfold Gd
 have e0 : (a0.1 != a1.1) = !I0 a0.1 a1.1 := Qu _ _
 have e1 : (a0.2.1 != a1.2.1) = !I0 a0.2.1 a1.2.1 := Qu _ _
 have e2 : (a0.2.2.1 != a1.2.2.1) = !I0 a0.2.2.1 a1.2.2.1 := Qu _ _
 have e4 : (a0.2.2.2.2.1 != a1.2.2.2.2.1) = !I0 a0.2.2.2.2.1 a1.2.2.2.2.1 := Qu _ _
 have e5 : (a0.2.2.2.2.2.1 != a1.2.2.2.2.2.1) = !I0 a0.2.2.2.2.2.1 a1.2.2.2.2.2.1 := Qu _ _
 have e6 : Ck a0.2.2.2.2.2.2.1 a1.2.2.2.2.2.2.1 = some (D1 Cc a0.2.2.2.2.2.2.1 a1.2.2.2.2.2.2.1) := F7 (t := Cc) hc6 hd6
 have e6 : Ck a0.2.2.2.2.2.2.1 a1.2.2.2.2.2.2.1 = some (D1 Cc a0.2.2.2.2.2.2.1 a1.2.2.2.2.2.2.1) := e6
 simp only [e0, e1, e2, e4, e5, e6, Option.bind_some]
 show _ = some (((I0 a0.1 a1.1 && (I0 a0.2.1 a1.2.1 && (I0 a0.2.2.1 a1.2.2.1 && ((decide (a0.2.2.2.1.1 = a1.2.2.2.1.1) && (decide (a0.2.2.2.1.2.1 = a1.2.2.2.1.2.1) && (decide (a0.2.2.2.1.2.2.1 = a1.2.2.2.1.2.2.1) && (decide (a0.2.2.2.1.2.2.2.1 = a1.2.2.2.1.2.2.2.1) && true)))) && (I0 a0.2.2.2.2.1 a1.2.2.2.2.1 && (I0 a0.2.2.2.2.2.1 a1.2.2.2.2.2.1 && (D1 Cc a0.2.2.2.2.2.2.1 a1.2.2.2.2.2.2.1 && true))))))), ()), ())
 generalize I0 a0.1 a1.1 = p0
 generalize I0 a0.2.1 a1.2.1 = p1
 generalize I0 a0.2.2.1 a1.2.2.1 = p2
 generalize (decide (a0.2.2.2.1.1 = a1.2.2.2.1.1) && (decide (a0.2.2.2.1.2.1 = a1.2.2.2.1.2.1) && (decide (a0.2.2.2.1.2.2.1 = a1.2.2.2.1.2.2.1) && (decide (a0.2.2.2.1.2.2.2.1 = a1.2.2.2.1.2.2.2.1) && true)))) = p3
 generalize I0 a0.2.2.2.2.1 a1.2.2.2.2.1 = p4
 generalize I0 a0.2.2.2.2.2.1 a1.2.2.2.2.2.1 = p5
 generalize D1 Cc a0.2.2.2.2.2.2.1 a1.2.2.2.2.2.2.1 = p6
 cases p0 <;> cases p1 <;> cases p2 <;> cases p3 <;> cases p4 <;> cases p5 <;> cases p6 <;> rfl
theorem Rg : Db Try.prog 90 sd_laws_eqStore :=
 B2 (pat := D8) [] Jz (B1 (l := [(14, sd_laws_eqState), (125, sd_laws_eqRoot)]) ⟨Js, T1, trivial⟩) trivial Try.func90 (de := fun x => Gd x.1 x.2.1) (fun x r h => Bt (Rf x.1 x.2.1) h) fun _ => by kernel_rfl
def Ee (a b : List Stt) : Option Bool := Yb (.sl Cc) a b
def Py : Sig := ⟨[.rd (.sl Cc), .rd (.sl Cc)], [none, none], [.rd .bool], [none]⟩
noncomputable def sd_laws_eqStateS : SD := ⟨Py, fun x => (Ee x.1 x.2.1).bind fun r => some ((r, ()), (()))⟩
noncomputable def ta_laws_eqStateS : Tb := tb [(14, sd_laws_eqState)]
def pa_laws_eqStateS : Nat → Pat × (Nat → Pat) := Lh [(5, ⟨[.sl 0 0 Cc, .sl 1 0 Cc], [(0, .lf (.d (.sl Cc))), (1, .lf (.d (.sl Cc))), (5, .lf (.d tI))], []⟩, [(2, p0), (1, ⟨[], [(4, .lf (.d .bool))], []⟩)])]
noncomputable def co_laws_eqStateS_5 : Code := (Bb (C6 Try.f91)).getD 0 .skip
def Bj (v0 : List Stt) (v1 : List Stt) (v5 : Int) : Nat := ((v0.length : Int) - v5).toNat + 1
noncomputable def Cl {R : Type}  (NX : ((List Stt) × (List Stt) × (Int) × Unit) → Option R) (X2 : (Unit) → Option R) (X1 : ((Bool) × Unit) → Option R) (v0 : List Stt) (v1 : List Stt) (v5 : Int) : Option R :=
 bif decide (v5 < nI v0.length) then bif decide (0 ≤ v5) then bif decide (v5 < nI v0.length) then bif decide (0 ≤ v5) then bif decide (v5 < nI v1.length) then ((Ck (v0.getD v5.toNat ([], ())) (v1.getD v5.toNat ([], ()))).bind fun val => some ((val, ()), ())).bind fun val => bif !val.1.1 then X1 (false, ()) else NX (v0, v1, IntKind.i64.wrap (v5 + 1), ()) else none else none else none else none else X2 PUnit.unit
noncomputable def At : Nat → (List Stt) → (List Stt) → (Int) →  Option ((Unit) ⊕ ((Bool) × Unit))
 | 0, _, _, _ => none
 | m + 1, v0, v1, v5 => Cl  (fun d => At m d.1 d.2.1 d.2.2.1) (fun d => some (.inl (d))) (fun d => some (.inr (d))) v0 v1 v5
noncomputable def Fr (a0 : List Stt) (a1 : List Stt) : Option ((((Bool) × Unit) × (Unit))) :=
 bif nI a0.length != nI a1.length then some ((false, ()), ()) else ((fun d => At (Bj d.1 d.2.1 d.2.2.1) d.1 d.2.1 d.2.2.1) (a0, a1, 0, ())).bind fun val => Fe (fun d => some ((true, ()), ())) (fun d => some (d, ())) val
theorem Pz (a0 : List Stt) (a1 : List Stt) r (h : Ee a0 a1 = some r) : Fr a0 a1 = some ((r, ()), (())) := by
 obtain ⟨hc, hd, rfl⟩ := Dp (t := .sl Cc) h
 obtain ⟨hlx0, hx⟩ := F1 hc
 obtain ⟨hly0, hy⟩ := F1 hd
 have hlx : a0.length < 1152921504606846976 := hlx0
 have hly : a1.length < 1152921504606846976 := hly0
 clear hlx0 hly0 hc hd h
 ·unfold Fr
  by_cases hl : a1.length = a0.length
  ·have c1 : (nI a0.length != nI a1.length) = false := by simp [nI, hl]
   have hL := N2 (xs := a0) (ys := a1) ([], ()) (fun x y : Stt => D1 Cc x y) (g := fun m i => At m a0 a1 i) (ok := .inl ()) (bad := .inr (false, ())) hl (fun m i hi => by
    show At (m + 1) a0 a1 i = _
    simp only [At, Cl]
    rw [i7 hi, Wv, i7 (show i < a1.length by omega), wI (by omega)]
    simp only [cond_true, Int.toNat_natCast]
    have f1 : An Cc (List.getD (α := Stt) a0 i ([], ())) = true := hx _ (Ip ([], ()) hi)
    have f2 : An Cc (List.getD (α := Stt) a1 i ([], ())) = true := hy _ (Ip ([], ()) (by omega))
    have hE : Ck (List.getD (α := Stt) a0 i ([], ())) (List.getD (α := Stt) a1 i ([], ())) = some (D1 Cc (List.getD (α := Stt) a0 i ([], ())) (List.getD (α := Stt) a1 i ([], ()))) := by
     exact F7 (t := Cc) (x := (List.getD (α := Stt) a0 i ([], ()))) (y := (List.getD (α := Stt) a1 i ([], ()))) f1 f2
    rw [hE]
    cases q : D1 Cc (List.getD (α := Stt) a0 i ([], ())) (List.getD (α := Stt) a1 i ([], ())) <;> simp only [Option.bind_some, q] <;> rfl) (fun m => by
    show At (m + 1) a0 a1 a0.length = _
    simp only [At, Cl]
    rw [Wu]
    rfl) (Bj a0 a1 0) 0 (by omega) (by simp [Bj])
   rw [c1]
   have hL' : At (Bj a0 a1 0) a0 a1 0 = _ := hL
   show (At (Bj a0 a1 0) a0 a1 0).bind _ = some ((Lw (α := Stt) (fun x y : Stt => D1 Cc x y) a0 a1, ()), ())
   rw [hL', List.drop_zero, List.drop_zero]
   cases Lw (α := Stt) (fun x y : Stt => D1 Cc x y) a0 a1 <;> rfl
  ·have c1 : (nI a0.length != nI a1.length) = true := by simp [nI]; omega
   rw [c1]
   show _ = some ((Lw (α := Stt) (fun x y : Stt => D1 Cc x y) a0 a1, ()), ())
   rw [N1 (fun q => hl q.symm)]
   rfl
noncomputable def Ha {R : Type} (k : Kt R) := (Fe (Tj (pa_laws_eqStateS 5) (.exit 0) 2 k) (Tj (pa_laws_eqStateS 5) .ret 1 k))
noncomputable def Jt {R : Type} : Lt R pa_laws_eqStateS := (Mi (pat := pa_laws_eqStateS) 5 (fun d k => (At (Bj d.1 d.2.1 d.2.2.1) d.1 d.2.1 d.2.2.1).bind (Ha k)) Jz)
theorem It : A2 Try.prog ta_laws_eqStateS := B1 ⟨Js, trivial⟩
theorem Mn {R : Type} : Cb Try.prog R 27 0 pa_laws_eqStateS Jt co_laws_eqStateS_5 :=
 G3 (cfg := ⟨ta_laws_eqStateS, 0, 27, pa_laws_eqStateS⟩) 5 [] (fun NX X d => Cl  NX (fun e => X (.inl (e))) (fun e => X (.inr (e))) d.1 d.2.1 d.2.2.1) (fun m d => At m d.1 d.2.1 d.2.2.1) (fun d => Bj d.1 d.2.1 d.2.2.1) Ha It trivial (fun f NX d => by unfold Cl; simp only [By, Ci, Bh, Option.bind_assoc, Option.bind_none, Option.bind_some]) (fun _ _ _ => by kernel_rfl)
theorem P0 : Db Try.prog 91 sd_laws_eqStateS :=
 B2 (pat := pa_laws_eqStateS) [co_laws_eqStateS_5] Jt It ⟨Mn, trivial⟩ Try.func91 (de := fun x => Fr x.1 x.2.1) (fun x r h => Bt (Pz x.1 x.2.1) h) fun _ => by kernel_rfl
def Ds (a b : Wld) : Option Bool := Yb Za a b
def Rh : Sig := ⟨[.rd Za, .rd Za], [some 16, some 16], [.rd .bool], [none]⟩
noncomputable def sd_laws_eqWorld : SD := ⟨Rh, fun x => (Ds x.1 x.2.1).bind fun r => some ((r, ()), (()))⟩
noncomputable def Ge (a0 : Wld) (a1 : Wld) : Option ((((Bool) × Unit) × (Unit))) :=
 bif a0.1 != a1.1 then some ((false, ()), ()) else ((D9 a0.2.1 a1.2.1).bind fun val => some ((val, ()), ())).bind fun val => bif !val.1.1 then some ((false, ()), ()) else bif !a0.2.2.1 == a1.2.2.1 then some ((false, ()), ()) else ((Dr a0.2.2.2.1 a1.2.2.2.1).bind fun val => some ((val, ()), ())).bind fun val => bif !val.1.1 then some ((false, ()), ()) else ((Ee a0.2.2.2.2.1 a1.2.2.2.2.1).bind fun val => some ((val, ()), ())).bind fun val => bif !val.1.1 then some ((false, ()), ()) else ((Cf a0.2.2.2.2.2.1 a1.2.2.2.2.2.1).bind fun val => some ((val, ()), ())).bind fun val => bif !val.1.1 then some ((false, ()), ()) else some ((true, ()), ())
theorem Ri (a0 : Wld) (a1 : Wld) r (h : Ds a0 a1 = some r) : Ge a0 a1 = some ((r, ()), (())) := by
 obtain ⟨hc, hd, rfl⟩ := Dp (t := Za) h
 obtain ⟨hc0, hc1, hc2, hc3, hc4, hc5, _⟩ : An tI a0.1 = true ∧ An Y9 a0.2.1 = true ∧ An .bool a0.2.2.1 = true ∧ An Nz a0.2.2.2.1 = true ∧ An (.sl Cc) a0.2.2.2.2.1 = true ∧ An (.sl .str) a0.2.2.2.2.2.1 = true ∧ True := by
  have s := hc
  obtain ⟨h0, s⟩ := Ac s
  obtain ⟨h1, s⟩ := Ac s
  obtain ⟨h2, s⟩ := Ac s
  obtain ⟨h3, s⟩ := Ac s
  obtain ⟨h4, s⟩ := Ac s
  obtain ⟨h5, s⟩ := Ac s
  exact ⟨h0, h1, h2, h3, h4, h5, trivial⟩
 obtain ⟨hd0, hd1, hd2, hd3, hd4, hd5, _⟩ : An tI a1.1 = true ∧ An Y9 a1.2.1 = true ∧ An .bool a1.2.2.1 = true ∧ An Nz a1.2.2.2.1 = true ∧ An (.sl Cc) a1.2.2.2.2.1 = true ∧ An (.sl .str) a1.2.2.2.2.2.1 = true ∧ True := by
  have s := hd
  obtain ⟨h0, s⟩ := Ac s
  obtain ⟨h1, s⟩ := Ac s
  obtain ⟨h2, s⟩ := Ac s
  obtain ⟨h3, s⟩ := Ac s
  obtain ⟨h4, s⟩ := Ac s
  obtain ⟨h5, s⟩ := Ac s
  exact ⟨h0, h1, h2, h3, h4, h5, trivial⟩
 unfold Ge
 have e0 : (a0.1 != a1.1) = !I0 a0.1 a1.1 := Qu _ _
 have e1 : D9 a0.2.1 a1.2.1 = some (D1 Y9 a0.2.1 a1.2.1) := F7 (t := Y9) hc1 hd1
 have e1 : D9 a0.2.1 a1.2.1 = some (D1 Y9 a0.2.1 a1.2.1) := e1
 have e2 : (!(a0.2.2.1 == a1.2.2.1)) = !eqO a0.2.2.1 a1.2.2.1 := rfl
 have e3 : Dr a0.2.2.2.1 a1.2.2.2.1 = some (D1 Nz a0.2.2.2.1 a1.2.2.2.1) := F7 (t := Nz) hc3 hd3
 have e3 : Dr a0.2.2.2.1 a1.2.2.2.1 = some (D1 Nz a0.2.2.2.1 a1.2.2.2.1) := e3
 have e4 : Ee a0.2.2.2.2.1 a1.2.2.2.2.1 = some (D1 (.sl Cc) a0.2.2.2.2.1 a1.2.2.2.2.1) := F7 (t := (.sl Cc)) hc4 hd4
 have e5 : Cf a0.2.2.2.2.2.1 a1.2.2.2.2.2.1 = some (D1 (.sl .str) a0.2.2.2.2.2.1 a1.2.2.2.2.2.1) := F7 (t := (.sl .str)) hc5 hd5
 simp only [e0, e1, e2, e3, e4, e5, Option.bind_some]
 show _ = some (((I0 a0.1 a1.1 && (D1 Y9 a0.2.1 a1.2.1 && (eqO a0.2.2.1 a1.2.2.1 && (D1 Nz a0.2.2.2.1 a1.2.2.2.1 && (D1 (.sl Cc) a0.2.2.2.2.1 a1.2.2.2.2.1 && (D1 (.sl .str) a0.2.2.2.2.2.1 a1.2.2.2.2.2.1 && true)))))), ()), ())
 generalize I0 a0.1 a1.1 = p0
 generalize D1 Y9 a0.2.1 a1.2.1 = p1
 generalize eqO a0.2.2.1 a1.2.2.1 = p2
 generalize D1 Nz a0.2.2.2.1 a1.2.2.2.1 = p3
 generalize D1 (.sl Cc) a0.2.2.2.2.1 a1.2.2.2.2.1 = p4
 generalize D1 (.sl .str) a0.2.2.2.2.2.1 a1.2.2.2.2.2.1 = p5
 cases p0 <;> cases p1 <;> cases p2 <;> cases p3 <;> cases p4 <;> cases p5 <;> rfl
theorem Rj : Db Try.prog 35 sd_laws_eqWorld :=
 B2 (pat := D8) [] Jz (B1 (l := [(89, sd_laws_eqDisk), (90, sd_laws_eqStore), (91, sd_laws_eqStateS), (92, sd_laws_eqStringS)]) ⟨Tt, Rg, P0, Hw, trivial⟩) trivial Try.func35 (de := fun x => Ge x.1 x.2.1) (fun x r h => Bt (Ri x.1 x.2.1) h) fun _ => by kernel_rfl
def Ao (k : Int) : Option ByteArray := if k ≤ 36028797018963968 then some (Dl k) else none
def Cm (v0 : Int) (v3 : ByteArray) : Nat := 21
def P1 : Sig := ⟨[.rd tI], [none], [.rd .str], [none]⟩
noncomputable def sd_laws_markText : SD := ⟨P1, fun x => (Ao x.1).bind fun r => some ((r, ()), (()))⟩
noncomputable def ta_laws_markText : Tb := tb []
def pa_laws_markText : Nat → Pat × (Nat → Pat) := Lh [(5, ⟨[], [(0, .lf (.d tI)), (3, .lf (.d .str))], []⟩, [(2, ⟨[], [(3, .lf (.d .str))], []⟩)])]
noncomputable def co_laws_markText_5 : Code := (Bb (C6 Try.f116)).getD 0 .skip
noncomputable def Cn {R : Type}  (NX : ((Int) × (ByteArray) × Unit) → Option R) (X2 : ((ByteArray) × Unit) → Option R) (v0 : Int) (v3 : ByteArray) : Option R :=
 bif decide (v0 > 0) then bif decide ((strOfNums [IntKind.u8.wrap (IntKind.i64.wrap (48 + v0.tmod 10))]).size + v3.size ≤ 9223372036854775807) then NX (IntKind.i64.wrap (v0.tdiv 10), strOfNums [IntKind.u8.wrap (IntKind.i64.wrap (48 + v0.tmod 10))] ++ v3, ()) else none else X2 (v3, ())
noncomputable def A1 : Nat → (Int) → (ByteArray) →  Option ((ByteArray) × Unit)
 | 0, _, _ => none
 | m + 1, v0, v3 => Cn  (fun d => A1 m d.1 d.2.1) (fun d => some (d)) v0 v3
noncomputable def Fs (a0 : Int) : Option ((((ByteArray) × Unit) × (Unit))) :=
 bif decide (a0 ≤ 0) then some ((ByteArray.mk #[109, 48], ()), ()) else ((fun d => A1 (Cm d.1 d.2.1) d.1 d.2.1) (a0, ByteArray.mk #[], ())).bind fun val => bif decide ((ByteArray.mk #[109]).size + ByteArray.size val.1 ≤ 9223372036854775807) then some ((ByteArray.mk #[109] ++ val.1, ()), ()) else none
theorem Zg {k : Int} (h : 0 ≤ k) : IntKind.wrap .u8 (IntKind.wrap .i64 (48 + Int.tmod k 10)) = 48 + k % 10 := by
 rw [Int.tmod_eq_emod_of_nonneg h]
 have h1 : 0 ≤ k % 10 := Int.emod_nonneg _ (by omega)
 have h2 : k % 10 < 10 := Int.emod_lt_of_pos _ (by omega)
 have e1 : IntKind.wrap .i64 (48 + k % 10) = 48 + k % 10 := Ey (by omega) (by omega)
 rw [e1]
 simp [IntKind.wrap, IntKind.bits, IntKind.signed]
 omega
theorem Iu : ∀ (m : Nat) (k : Int) (out : ByteArray), 0 ≤ k → k ≤ 36028797018963968 → k < 10 ^ m → out.size + m ≤ 100 → A1 (m + 1) k out = some (Km m k out, ())
 | 0, k, out, h0, hb, h1, _ => by
  simp only [A1, Cn]
  have : ¬ k > 0 := by simp at h1; omega
  rw [decide_eq_false this]
  rfl
 | m + 1, k, out, h0, hb, h1, h2 => by
  rw [A1]
  simp only [Cn, Km]
  by_cases h : k > 0
  ·have e : IntKind.wrap .i64 (Int.tdiv k 10) = k / 10 := by
    rw [Int.tdiv_eq_ediv_of_nonneg h0]
    exact Ey (by omega) (by omega)
   have hs : ByteArray.size (strOfNums [48 + k % 10]) = 1 := strOfNums_size _
   have h3 : k / 10 < 10 ^ m := Int.ediv_lt_of_lt_mul (by omega) (by rw [Int.pow_succ] at h1; exact h1)
   have c : ByteArray.size (strOfNums [48 + k % 10]) + ByteArray.size out ≤ 9223372036854775807 := by rw [hs]; omega
   have ih := Iu m (k / 10) (strOfNums [48 + k % 10] ++ out) (by omega) (by omega) h3 (by rw [ByteArray.size_append, hs]; omega)
   rw [Zg h0, decide_eq_true h, if_pos h, e, decide_eq_true c]
   exact ih
  ·rw [decide_eq_false h, if_neg h]
   rfl
theorem Qr : ∀ (m : Nat) (k : Int) (out : ByteArray), (Km m k out).size ≤ out.size + m
 | 0, k, out => Nat.le_refl _
 | m + 1, k, out => by
  simp only [Km]
  split
  ·have := Qr m (k / 10) (strOfNums [48 + k % 10] ++ out)
   rw [ByteArray.size_append, strOfNums_size] at this
   simp at this
   omega
  ·omega
theorem P2 (a0 : Int) r (h : Ao a0 = some r) : Fs a0 = some ((r, ()), (())) := by
 unfold Ao at h
 split at h
 ·rename_i hc
  cases h
  unfold Fs Dl
  by_cases q : a0 ≤ 0
  ·rw [decide_eq_true q, if_pos q]; rfl
  ·rw [decide_eq_false q, if_neg q]
   have hL := Iu 20 a0 ⟨#[]⟩ (by omega) hc (by omega) (by decide)
   have hL' : A1 (Cm a0 ⟨#[]⟩) a0 ⟨#[]⟩ = _ := hL
   show (A1 (Cm a0 ⟨#[]⟩) a0 ⟨#[]⟩).bind _ = _
   rw [hL']
   have := Qr 20 a0 ⟨#[]⟩
   have h0 : ByteArray.size ⟨#[]⟩ = 0 := rfl
   have h1 : ByteArray.size ⟨#[109]⟩ = 1 := rfl
   have c : ByteArray.size ⟨#[109]⟩ + ByteArray.size (Km 20 a0 ⟨#[]⟩) ≤ 9223372036854775807 := by omega
   show (bif decide (ByteArray.size ⟨#[109]⟩ + ByteArray.size (Km 20 a0 ⟨#[]⟩) ≤ 9223372036854775807) then _ else _) = _
   rw [decide_eq_true c]
   rfl
 ·cases h
noncomputable def Hb {R : Type} (k : Kt R) := (Tj (pa_laws_markText 5) (.exit 0) 2 k)
noncomputable def Ju {R : Type} : Lt R pa_laws_markText := (Mi (pat := pa_laws_markText) 5 (fun d k => (A1 (Cm d.1 d.2.1) d.1 d.2.1).bind (Hb k)) Jz)
theorem Iv : A2 Try.prog ta_laws_markText := B1 trivial
theorem Mo {R : Type} : Cb Try.prog R 20 0 pa_laws_markText Ju co_laws_markText_5 :=
 G3 (cfg := ⟨ta_laws_markText, 0, 20, pa_laws_markText⟩) 5 [] (fun NX X d => Cn  NX X d.1 d.2.1) (fun m d => A1 m d.1 d.2.1) (fun d => Cm d.1 d.2.1) Hb Iv trivial (fun f NX d => by unfold Cn; simp only [By, Ci, Bh, Option.bind_assoc, Option.bind_none, Option.bind_some]) (fun _ _ _ => by kernel_rfl)
theorem Cg : Db Try.prog 116 sd_laws_markText :=
 B2 (pat := pa_laws_markText) [co_laws_markText_5] Ju Iv ⟨Mo, trivial⟩ Try.func116 (de := fun x => Fs x.1) (fun x r h => Bt (P2 x.1) h) fun _ => by kernel_rfl
def Co (a : List ByteArray) (k : Int) : Option (Int × (List ByteArray)) := Kn .str a k
def Lj : Sig := ⟨[.mu 9 .str, .rd tI], [none, none], [.rd tI], [none]⟩
noncomputable def sd_laws_markStringS : SD := ⟨Lj, fun x => (Co x.1 x.2.1).bind fun r => some ((r.1, ()), (r.2, ()))⟩
noncomputable def ta_laws_markStringS : Tb := tb [(116, sd_laws_markText)]
def pa_laws_markStringS : Nat → Pat × (Nat → Pat) := Lh [(3, ⟨[], [(0, .lf (.row 0)), (1, .lf (.d tI)), (5, .lf (.d tI))], [.row 9 .str]⟩, [(2, ⟨[], [(1, .lf (.d tI))], [.row 9 .str]⟩)])]
noncomputable def co_laws_markStringS_3 : Code := (Bb (C6 Try.f96)).getD 0 .skip
def A4 (v1 : Int) (v5 : Int) (r0 : List ByteArray) : Nat := ((r0.length : Int) - v5).toNat + 1
noncomputable def Bu {R : Type}  (NX : ((Int) × (Int) × (List ByteArray) × Unit) → Option R) (X2 : ((Int) × (List ByteArray) × Unit) → Option R) (v1 : Int) (v5 : Int) (r0 : List ByteArray) : Option R :=
 bif decide (v5 < nI r0.length) then ((Ao v1).bind fun val => some ((val, ()), ())).bind fun val => bif decide (0 ≤ v5) then bif decide (v5 < nI r0.length) then bif decide (v5.toNat < r0.length) then NX (IntKind.i64.wrap (v1 + 1), IntKind.i64.wrap (v5 + 1), r0.set v5.toNat val.1.1, ()) else none else none else none else X2 (v1, r0, ())
noncomputable def Ah : Nat → (Int) → (Int) → (List ByteArray) →  Option ((Int) × (List ByteArray) × Unit)
 | 0, _, _, _ => none
 | m + 1, v1, v5, r0 => Bu  (fun d => Ah m d.1 d.2.1 d.2.2.1) (fun d => some (d)) v1 v5 r0
noncomputable def D3 (a0 : List ByteArray) (a1 : Int) : Option ((((Int) × Unit) × ((List ByteArray) × Unit))) :=
 ((fun d => Ah (A4 d.1 d.2.1 d.2.2.1) d.1 d.2.1 d.2.2.1) (a1, 0, a0, ())).bind fun val => some ((val.1, ()), val.2)
theorem Lk (a0 : List ByteArray) (a1 : Int) r (h : Co a0 a1 = some r) : D3 a0 a1 = some ((r.1, ()), (r.2, ())) := by
 obtain ⟨g0, g1, hl0, rfl⟩ := Tk (t := .str) h
 have hl : a0.length ≤ 1125899906842624 := hl0
 have hEE : (fun k : Int => (show ByteArray from (Yc .str k).1)) = (fun k : Int => Dl (k)) := funext fun k => by
  show Dl (k) = Dl (k)
  try simp only [Int.add_assoc, Int.add_zero]
  try rfl
 show _ = some ((a1 + (a0.length : Int) * 1, ()), (gL (fun k : Int => (show ByteArray from (Yc .str k).1)) 1 a0.length a1, ()))
 rw [hEE]
 unfold D3
 have hL := Pn (fun k : Int => Dl (k)) 1 (n := a0.length) (K := 36028797018963000) (g := fun m k i r => Ah m k i r) (ok := fun k r => (k, r, ())) (fun m i k r hi hr h1 hK => by
  show Ah (m + 1) k i r = _
  have hK1 : k + 1 ≤ 36028797018963000 := by
   have : (1 : Int) ≤ (a0.length - i : Nat) := by omega
   omega
  rw [show Ah (m + 1) k i r = Ah (m + 1) (k + 0) i r from by rw [Int.add_zero]]
  have k0 : k = k + 0 := (Int.add_zero k).symm
  have t0 : Ao (k + 0) = some (Dl (k + 0)) := if_pos (by omega)
  have w0 : IntKind.i64.wrap (k + 0 + 1) = k + 1 := by rw [Ey (by omega) (by omega)]; omega
  have hir : i < r.length := by omega
  simp only [Ah, Bu]
  simp only [t0,  Option.bind_some, w0,  List.length_set, List.set_set, i7 hir, Wv, Acy hir, wI (show i < 4611686018427387904 by omega), cond_true, Int.toNat_natCast, Dn hir]
  first | rfl | (rw [Int.add_zero]; rfl) | (simp only [Int.add_zero]; rfl)) (fun m k r hr => by
  show Ah (m + 1) k a0.length r = _
  simp only [Ah, Bu, hr]
  rw [Wu]
  rfl) (A4 a1 0 a0) 0 a1 a0 (by omega) (by simp [A4]) rfl g0 (by omega)
 have hL' : Ah (A4 a1 0 a0) a1 0 a0 = _ := hL
 show (Ah (A4 a1 0 a0) a1 0 a0).bind _ = _
 rw [hL']
 rfl
noncomputable def Fg {R : Type} (k : Kt R) := (Tj (pa_laws_markStringS 3) (.exit 0) 2 k)
noncomputable def Hc {R : Type} : Lt R pa_laws_markStringS := (Mi (pat := pa_laws_markStringS) 3 (fun d k => (Ah (A4 d.1 d.2.1 d.2.2.1) d.1 d.2.1 d.2.2.1).bind (Fg k)) Jz)
theorem Gg : A2 Try.prog ta_laws_markStringS := B1 ⟨Cg, trivial⟩
theorem Jx {R : Type} : Cb Try.prog R 20 1 pa_laws_markStringS Hc co_laws_markStringS_3 :=
 G3 (cfg := ⟨ta_laws_markStringS, 1, 20, pa_laws_markStringS⟩) 3 [] (fun NX X d => Bu  NX X d.1 d.2.1 d.2.2.1) (fun m d => Ah m d.1 d.2.1 d.2.2.1) (fun d => A4 d.1 d.2.1 d.2.2.1) Fg Gg trivial (fun f NX d => by unfold Bu; simp only [By, Ci, Bh, Option.bind_assoc, Option.bind_none, Option.bind_some]) (fun _ _ _ => by kernel_rfl)
theorem Gi : Db Try.prog 96 sd_laws_markStringS :=
 B2 (pat := pa_laws_markStringS) [co_laws_markStringS_3] Hc Gg ⟨Jx, trivial⟩ Try.func96 (de := fun x => D3 x.1 x.2.1) (fun x r h => Bt (Lk x.1 x.2.1) h) fun _ => by kernel_rfl
def Dh (a : List Wr) (k : Int) : Option (Int × (List Wr)) := Kn Df a k
def Mp : Sig := ⟨[.mu 140 Df, .rd tI], [none, none], [.rd tI], [none]⟩
noncomputable def sd_laws_markWriteS : SD := ⟨Mp, fun x => (Dh x.1 x.2.1).bind fun r => some ((r.1, ()), (r.2, ()))⟩
noncomputable def ta_laws_markWriteS : Tb := tb [(116, sd_laws_markText)]
def pa_laws_markWriteS : Nat → Pat × (Nat → Pat) := Lh [(3, ⟨[], [(0, .lf (.row 0)), (1, .lf (.d tI)), (5, .lf (.d tI))], [.row 140 Df]⟩, [(2, ⟨[], [(1, .lf (.d tI))], [.row 140 Df]⟩)])]
noncomputable def co_laws_markWriteS_3 : Code := (Bb (C6 Try.f126)).getD 0 .skip
def A8 (v1 : Int) (v5 : Int) (r0 : List Wr) : Nat := ((r0.length : Int) - v5).toNat + 1
noncomputable def B4 {R : Type}  (NX : ((Int) × (Int) × (List Wr) × Unit) → Option R) (X2 : ((Int) × (List Wr) × Unit) → Option R) (v1 : Int) (v5 : Int) (r0 : List Wr) : Option R :=
 bif decide (v5 < nI r0.length) then bif decide (0 ≤ v5) then bif decide (v5 < nI r0.length) then bif decide (v5.toNat < r0.length) then ((Ao (IntKind.i64.wrap (v1 + 1))).bind fun val => some ((val, ()), ())).bind fun val => bif decide (0 ≤ v5) then bif decide (v5 < nI (r0.set v5.toNat (v1, (r0.getD v5.toNat (0, ByteArray.mk #[], ())).2)).length) then bif decide (v5.toNat < (r0.set v5.toNat (v1, (r0.getD v5.toNat (0, ByteArray.mk #[], ())).2)).length) then NX (IntKind.i64.wrap (IntKind.i64.wrap (v1 + 1) + 1), IntKind.i64.wrap (v5 + 1), (r0.set v5.toNat (v1, (r0.getD v5.toNat (0, ByteArray.mk #[], ())).2)).set v5.toNat (((r0.set v5.toNat (v1, (r0.getD v5.toNat (0, ByteArray.mk #[], ())).2)).getD v5.toNat (0, ByteArray.mk #[], ())).1, val.1), ()) else none else none else none else none else none else none else X2 (v1, r0, ())
noncomputable def Al : Nat → (Int) → (Int) → (List Wr) →  Option ((Int) × (List Wr) × Unit)
 | 0, _, _, _ => none
 | m + 1, v1, v5, r0 => B4  (fun d => Al m d.1 d.2.1 d.2.2.1) (fun d => some (d)) v1 v5 r0
noncomputable def Ei (a0 : List Wr) (a1 : Int) : Option ((((Int) × Unit) × ((List Wr) × Unit))) :=
 ((fun d => Al (A8 d.1 d.2.1 d.2.2.1) d.1 d.2.1 d.2.2.1) (a1, 0, a0, ())).bind fun val => some ((val.1, ()), val.2)
theorem Mq (a0 : List Wr) (a1 : Int) r (h : Dh a0 a1 = some r) : Ei a0 a1 = some ((r.1, ()), (r.2, ())) := by
 obtain ⟨g0, g1, hl0, rfl⟩ := Tk (t := Df) h
 have hl : a0.length ≤ 1125899906842624 := hl0
 have hEE : (fun k : Int => (show Wr from (Yc Df k).1)) = (fun k : Int => (k, Dl (k + 1), ())) := funext fun k => by
  show (k, Dl (k + 1), ()) = (k, Dl (k + 1), ())
  try simp only [Int.add_assoc, Int.add_zero]
  try rfl
 show _ = some ((a1 + (a0.length : Int) * 2, ()), (gL (fun k : Int => (show Wr from (Yc Df k).1)) 2 a0.length a1, ()))
 rw [hEE]
 unfold Ei
 have hL := Pn (fun k : Int => (k, Dl (k + 1), ())) 2 (n := a0.length) (K := 36028797018963000) (g := fun m k i r => Al m k i r) (ok := fun k r => (k, r, ())) (fun m i k r hi hr h1 hK => by
  show Al (m + 1) k i r = _
  have hK1 : k + 2 ≤ 36028797018963000 := by
   have : (1 : Int) ≤ (a0.length - i : Nat) := by omega
   omega
  rw [show Al (m + 1) k i r = Al (m + 1) (k + 0) i r from by rw [Int.add_zero]]
  have k0 : k = k + 0 := (Int.add_zero k).symm
  have t1 : Ao (k + 1) = some (Dl (k + 1)) := if_pos (by omega)
  have w0 : IntKind.i64.wrap (k + 0 + 1) = k + 1 := by rw [Ey (by omega) (by omega)]; omega
  have w1 : IntKind.i64.wrap (k + 1 + 1) = k + 2 := by rw [Ey (by omega) (by omega)]; omega
  have hir : i < r.length := by omega
  simp only [Al, B4]
  simp only [t1,  Option.bind_some, w0, w1,  List.length_set, List.set_set, i7 hir, Wv, Acy hir, wI (show i < 4611686018427387904 by omega), cond_true, Int.toNat_natCast, Dn hir]
  first | rfl | (rw [Int.add_zero]; rfl) | (simp only [Int.add_zero]; rfl)) (fun m k r hr => by
  show Al (m + 1) k a0.length r = _
  simp only [Al, B4, hr]
  rw [Wu]
  rfl) (A8 a1 0 a0) 0 a1 a0 (by omega) (by simp [A8]) rfl g0 (by omega)
 have hL' : Al (A8 a1 0 a0) a1 0 a0 = _ := hL
 show (Al (A8 a1 0 a0) a1 0 a0).bind _ = _
 rw [hL']
 rfl
noncomputable def F2 {R : Type} (k : Kt R) := (Tj (pa_laws_markWriteS 3) (.exit 0) 2 k)
noncomputable def Hy {R : Type} : Lt R pa_laws_markWriteS := (Mi (pat := pa_laws_markWriteS) 3 (fun d k => (Al (A8 d.1 d.2.1 d.2.2.1) d.1 d.2.1 d.2.2.1).bind (F2 k)) Jz)
theorem Hd : A2 Try.prog ta_laws_markWriteS := B1 ⟨Cg, trivial⟩
theorem Kw {R : Type} : Cb Try.prog R 28 1 pa_laws_markWriteS Hy co_laws_markWriteS_3 :=
 G3 (cfg := ⟨ta_laws_markWriteS, 1, 28, pa_laws_markWriteS⟩) 3 [] (fun NX X d => B4  NX X d.1 d.2.1 d.2.2.1) (fun m d => Al m d.1 d.2.1 d.2.2.1) (fun d => A8 d.1 d.2.1 d.2.2.1) F2 Hd trivial (fun f NX d => by unfold B4; simp only [By, Ci, Bh, Option.bind_assoc, Option.bind_none, Option.bind_some]) (fun _ _ _ => by kernel_rfl)
theorem Mr : Db Try.prog 126 sd_laws_markWriteS :=
 B2 (pat := pa_laws_markWriteS) [co_laws_markWriteS_3] Hy Hd ⟨Kw, trivial⟩ Try.func126 (de := fun x => Ei x.1 x.2.1) (fun x r h => Bt (Mq x.1 x.2.1) h) fun _ => by kernel_rfl
def Dc (a : Dk) (k : Int) : Option (Int × (List ByteArray) × (List Wr)) := (Kn .str a.1 k).bind fun r0 => (Kn Df a.2.1 r0.1).bind fun r1 =>  some (r1.1, r0.2, r1.2)
def P3 : Sig := ⟨[.mu 9 .str, .mu 140 Df, .rd tI], [some 2, none], [.rd tI], [none]⟩
noncomputable def sd_laws_markDisk : SD := ⟨P3, fun x => (Dc (x.1, x.2.1, ()) x.2.2.1).bind fun r => some ((r.1, ()), (r.2.1, r.2.2, ()))⟩
noncomputable def Ft (a0 : List ByteArray) (a1 : List Wr) (a2 : Int) : Option ((((Int) × Unit) × Dk)) :=
 ((Co a0 a2).bind fun val => some ((val.1, ()), val.2, ())).bind fun val => ((Dh a1 val.1.1).bind fun val => some ((val.1, ()), val.2, ())).bind fun val_1 => some (val_1.1, val.2.1, val_1.2)
theorem P4 (a0 : List ByteArray) (a1 : List Wr) (a2 : Int) r (h : Dc (a0, a1, ()) a2 = some r) : Ft a0 a1 a2 = some ((r.1, ()), (r.2.1, r.2.2, ())) := by
 unfold Dc at h
 obtain ⟨⟨k0, x0⟩, e0, h⟩ := Option.bind_eq_some_iff.1 h
 have e0 : Kn .str a0 a2 = some (k0, x0) := e0
 obtain ⟨⟨k1, x1⟩, e1, h⟩ := Option.bind_eq_some_iff.1 h
 have e1 : Kn Df a1 k0 = some (k1, x1) := e1
 cases h
 unfold Ft
 have c0 : Co a0 a2 = (some (k0, x0) : Option (Int × (List ByteArray))) := e0
 rw [c0]
 simp only [Option.bind_some]
 have c1 : Dh a1 k0 = (some (k1, x1) : Option (Int × (List Wr))) := e1
 rw [c1]
 simp only [Option.bind_some]
 try rfl
theorem P5 : Db Try.prog 93 sd_laws_markDisk :=
 B2 (pat := D8) [] Jz (B1 (l := [(96, sd_laws_markStringS), (126, sd_laws_markWriteS)]) ⟨Gi, Mr, trivial⟩) trivial Try.func93 (de := fun x => Ft x.1 x.2.1 x.2.2.1) (fun x r h => Bt (P4 x.1 x.2.1 x.2.2.1) h) fun _ => by kernel_rfl
def C1 (a : List Pr2) (k : Int) : Option Int := bif a.isEmpty then some k else none
def Oa : Sig := ⟨[.rd (.sl B8), .rd tI], [none, none], [.rd tI], [none]⟩
noncomputable def sd_laws_markPairS : SD := ⟨Oa, fun x => (C1 x.1 x.2.1).bind fun r => some ((r, ()), (()))⟩
noncomputable def ta_laws_markPairS : Tb := tb [(116, sd_laws_markText)]
def pa_laws_markPairS : Nat → Pat × (Nat → Pat) := Lh [(3, ⟨[.sl 0 0 B8], [(0, .lf (.d (.sl B8))), (1, .lf (.d tI)), (5, .lf (.d tI))], []⟩, [(2, ⟨[], [(1, .lf (.d tI))], []⟩)])]
noncomputable def co_laws_markPairS_3 : Code := (Bb (C6 Try.f59)).getD 0 .skip
def D4 (v0 : List Pr2) (v1 : Int) (v5 : Int) : Nat := ((v0.length : Int) - v5).toNat + 1
noncomputable def D5 {R : Type}  (NX : ((List Pr2) × (Int) × (Int) × Unit) → Option R) (X2 : ((Int) × Unit) → Option R) (v0 : List Pr2) (v1 : Int) (v5 : Int) : Option R :=
 bif decide (v5 < nI v0.length) then ((Ao v1).bind fun val => some ((val, ()), ())).bind fun val => bif decide (0 ≤ v5) then bif decide (v5 < nI v0.length) then none else none else none else X2 (v1, ())
noncomputable def C0 : Nat → (List Pr2) → (Int) → (Int) →  Option ((Int) × Unit)
 | 0, _, _, _ => none
 | m + 1, v0, v1, v5 => D5  (fun d => C0 m d.1 d.2.1 d.2.2.1) (fun d => some (d)) v0 v1 v5
noncomputable def Hz (a0 : List Pr2) (a1 : Int) : Option ((((Int) × Unit) × (Unit))) :=
 ((fun d => C0 (D4 d.1 d.2.1 d.2.2.1) d.1 d.2.1 d.2.2.1) (a0, a1, 0, ())).bind fun val => some (val, ())
theorem Ob (a0 : List Pr2) (a1 : Int) r (h : C1 a0 a1 = some r) : Hz a0 a1 = some ((r, ()), (())) := by
 unfold C1 at h
 cases a0 with
 | cons x l => cases h
 | nil =>
  cases h
  rfl
noncomputable def Gj {R : Type} (k : Kt R) := (Tj (pa_laws_markPairS 3) (.exit 0) 2 k)
noncomputable def Iw {R : Type} : Lt R pa_laws_markPairS := (Mi (pat := pa_laws_markPairS) 3 (fun d k => (C0 (D4 d.1 d.2.1 d.2.2.1) d.1 d.2.1 d.2.2.1).bind (Gj k)) Jz)
theorem H0 : A2 Try.prog ta_laws_markPairS := B1 ⟨Cg, trivial⟩
theorem Ll {R : Type} : Cb Try.prog R 29 0 pa_laws_markPairS Iw co_laws_markPairS_3 :=
 G3 (cfg := ⟨ta_laws_markPairS, 0, 29, pa_laws_markPairS⟩) 3 [] (fun NX X d => D5  NX X d.1 d.2.1 d.2.2.1) (fun m d => C0 m d.1 d.2.1 d.2.2.1) (fun d => D4 d.1 d.2.1 d.2.2.1) Gj H0 trivial (fun f NX d => by unfold D5; simp only [By, Ci, Bh, Option.bind_assoc, Option.bind_none, Option.bind_some]) (fun _ _ _ => by kernel_rfl)
theorem H1 : Db Try.prog 59 sd_laws_markPairS :=
 B2 (pat := pa_laws_markPairS) [co_laws_markPairS_3] Iw H0 ⟨Ll, trivial⟩ Try.func59 (de := fun x => Hz x.1 x.2.1) (fun x r h => Bt (Ob x.1 x.2.1) h) fun _ => by kernel_rfl
def Oc : Sig := ⟨[.rd Cc, .rd tI], [some 1, none], [.rd tI], [none]⟩
noncomputable def E4 (a0 : Stt) (a1 : Int) : Option ((((Int) × Unit) × (Unit))) :=
 ((C1 a0.1 a1).bind fun val => some ((val, ()), ())).bind fun val => some val
noncomputable def sd_laws_markState : SD := ⟨Oc, fun x => E4 x.1 x.2.1⟩
theorem Od : Db Try.prog 15 sd_laws_markState :=
 B2 (pat := D8) [] Jz (B1 (l := [(59, sd_laws_markPairS)]) ⟨H1, trivial⟩) trivial Try.func15 (de := fun x => E4 x.1 x.2.1) (fun x r h => h) fun _ => by kernel_rfl
def Oe : Sig := ⟨[.rd Nz, .rd tI], [some 10, none], [.rd tI], [none]⟩
noncomputable def E5 (a0 : Sto) (a1 : Int) : Option ((((Int) × Unit) × (Unit))) :=
 (E4 a0.2.2.2.2.2.2.1 a1).bind fun val => some val
noncomputable def sd_laws_markStore : SD := ⟨Oe, fun x => E5 x.1 x.2.1⟩
theorem Of : Db Try.prog 94 sd_laws_markStore :=
 B2 (pat := D8) [] Jz (B1 (l := [(15, sd_laws_markState)]) ⟨Od, trivial⟩) trivial Try.func94 (de := fun x => E5 x.1 x.2.1) (fun x r h => h) fun _ => by kernel_rfl
def Ms : Sig := ⟨[.rd (.sl Cc), .rd tI], [none, none], [.rd tI], [none]⟩
noncomputable def ta_laws_markStateS : Tb := tb [(59, sd_laws_markPairS)]
def pa_laws_markStateS : Nat → Pat × (Nat → Pat) := Lh [(3, ⟨[.sl 0 0 Cc], [(0, .lf (.d (.sl Cc))), (1, .lf (.d tI)), (5, .lf (.d tI))], []⟩, [(2, ⟨[], [(1, .lf (.d tI))], []⟩)])]
noncomputable def co_laws_markStateS_3 : Code := (Bb (C6 Try.f95)).getD 0 .skip
def Dt (v0 : List Stt) (v1 : Int) (v5 : Int) : Nat := ((v0.length : Int) - v5).toNat + 1
noncomputable def Du {R : Type}  (NX : ((List Stt) × (Int) × (Int) × Unit) → Option R) (X2 : ((Int) × Unit) → Option R) (v0 : List Stt) (v1 : Int) (v5 : Int) : Option R :=
 bif decide (v5 < nI v0.length) then bif decide (0 ≤ v5) then bif decide (v5 < nI v0.length) then ((C1 (v0.getD v5.toNat ([], ())).1 v1).bind fun val => some ((val, ()), ())).bind fun val => NX (v0, val.1.1, IntKind.i64.wrap (v5 + 1), ()) else none else none else X2 (v1, ())
noncomputable def Cx : Nat → (List Stt) → (Int) → (Int) →  Option ((Int) × Unit)
 | 0, _, _, _ => none
 | m + 1, v0, v1, v5 => Du  (fun d => Cx m d.1 d.2.1 d.2.2.1) (fun d => some (d)) v0 v1 v5
noncomputable def C7 (a0 : List Stt) (a1 : Int) : Option ((((Int) × Unit) × (Unit))) :=
 ((fun d => Cx (Dt d.1 d.2.1 d.2.2.1) d.1 d.2.1 d.2.2.1) (a0, a1, 0, ())).bind fun val => some (val, ())
noncomputable def sd_laws_markStateS : SD := ⟨Ms, fun x => C7 x.1 x.2.1⟩
noncomputable def F3 {R : Type} (k : Kt R) := (Tj (pa_laws_markStateS 3) (.exit 0) 2 k)
noncomputable def H2 {R : Type} : Lt R pa_laws_markStateS := (Mi (pat := pa_laws_markStateS) 3 (fun d k => (Cx (Dt d.1 d.2.1 d.2.2.1) d.1 d.2.1 d.2.2.1).bind (F3 k)) Jz)
theorem He : A2 Try.prog ta_laws_markStateS := B1 ⟨H1, trivial⟩
theorem Kx {R : Type} : Cb Try.prog R 20 0 pa_laws_markStateS H2 co_laws_markStateS_3 :=
 G3 (cfg := ⟨ta_laws_markStateS, 0, 20, pa_laws_markStateS⟩) 3 [] (fun NX X d => Du  NX X d.1 d.2.1 d.2.2.1) (fun m d => Cx m d.1 d.2.1 d.2.2.1) (fun d => Dt d.1 d.2.1 d.2.2.1) F3 He trivial (fun f NX d => by unfold Du; simp only [By, Ci, Bh, Option.bind_assoc, Option.bind_none, Option.bind_some]) (fun _ _ _ => by kernel_rfl)
theorem Mt : Db Try.prog 95 sd_laws_markStateS :=
 B2 (pat := pa_laws_markStateS) [co_laws_markStateS_3] H2 He ⟨Kx, trivial⟩ Try.func95 (de := fun x => C7 x.1 x.2.1) (fun x r h => h) fun _ => by kernel_rfl
def Og : Sig := ⟨[.rd tI, .mu 9 .str, .mu 140 Df, .rd .bool, .rd tI, .rd tI, .rd tI, .rd tI, .rd tI, .rd tI, .rd tI, .rd tI, .rd tI, .rd (.sl B8), .rd (.sl Cc), .mu 9 .str, .rd tI], [some 16, none], [.rd tI], [none]⟩
noncomputable def B7 (a0 : Int) (a1 : List ByteArray) (a2 : List Wr) (a3 : Bool) (a4 : Int) (a5 : Int) (a6 : Int) (a7 : Int) (a8 : Int) (a9 : Int) (a10 : Int) (a11 : Int) (a12 : Int) (a13 : List Pr2) (a14 : List Stt) (a15 : List ByteArray) (a16 : Int) : Option ((((Int) × Unit) × ((List ByteArray) × (List Wr) × (List ByteArray) × Unit))) :=
 ((Dc (a1, a2, ()) a16).bind fun val => some ((val.1, ()), val.2.1, val.2.2, ())).bind fun val => (E5 (a4, a5, a6, (a7, a8, a9, a10, ()), a11, a12, (a13, ()), ()) val.1.1).bind fun val_1 => (C7 a14 val_1.1.1).bind fun val_2 => ((Co a15 val_2.1.1).bind fun val => some ((val.1, ()), val.2, ())).bind fun val_3 => some (val_3.1, val.2.1, val.2.2.1, val_3.2)
noncomputable def sd_laws_markWorld : SD := ⟨Og, fun x => B7 x.1 x.2.1 x.2.2.1 x.2.2.2.1 x.2.2.2.2.1 x.2.2.2.2.2.1 x.2.2.2.2.2.2.1 x.2.2.2.2.2.2.2.1 x.2.2.2.2.2.2.2.2.1 x.2.2.2.2.2.2.2.2.2.1 x.2.2.2.2.2.2.2.2.2.2.1 x.2.2.2.2.2.2.2.2.2.2.2.1 x.2.2.2.2.2.2.2.2.2.2.2.2.1 x.2.2.2.2.2.2.2.2.2.2.2.2.2.1 x.2.2.2.2.2.2.2.2.2.2.2.2.2.2.1 x.2.2.2.2.2.2.2.2.2.2.2.2.2.2.2.1 x.2.2.2.2.2.2.2.2.2.2.2.2.2.2.2.2.1⟩
theorem Oh : Db Try.prog 36 sd_laws_markWorld :=
 B2 (pat := D8) [] Jz (B1 (l := [(93, sd_laws_markDisk), (94, sd_laws_markStore), (95, sd_laws_markStateS), (96, sd_laws_markStringS)]) ⟨P5, Of, Mt, Gi, trivial⟩) trivial Try.func36 (de := fun x => B7 x.1 x.2.1 x.2.2.1 x.2.2.2.1 x.2.2.2.2.1 x.2.2.2.2.2.1 x.2.2.2.2.2.2.1 x.2.2.2.2.2.2.2.1 x.2.2.2.2.2.2.2.2.1 x.2.2.2.2.2.2.2.2.2.1 x.2.2.2.2.2.2.2.2.2.2.1 x.2.2.2.2.2.2.2.2.2.2.2.1 x.2.2.2.2.2.2.2.2.2.2.2.2.1 x.2.2.2.2.2.2.2.2.2.2.2.2.2.1 x.2.2.2.2.2.2.2.2.2.2.2.2.2.2.1 x.2.2.2.2.2.2.2.2.2.2.2.2.2.2.2.1 x.2.2.2.2.2.2.2.2.2.2.2.2.2.2.2.2.1) (fun x r h => h) fun _ => by kernel_rfl
def Cp (a : List ByteArray) (k : Int) : Option Int := Ff .str a k
def Lm : Sig := ⟨[.rd (.sl .str), .rd tI], [none, none], [.rd tI], [none]⟩
noncomputable def sd_laws_heldStringS : SD := ⟨Lm, fun x => (Cp x.1 x.2.1).bind fun r => some ((r, ()), (()))⟩
noncomputable def ta_laws_heldStringS : Tb := tb [(116, sd_laws_markText)]
def pa_laws_heldStringS : Nat → Pat × (Nat → Pat) := Lh [(3, ⟨[.sl 0 0 .str], [(0, .lf (.d (.sl .str))), (1, .lf (.d tI)), (5, .lf (.d tI))], []⟩, [(2, ⟨[], [(1, .lf (.d tI))], []⟩), (1, ⟨[], [(4, .lf (.d tI))], []⟩)])]
noncomputable def co_laws_heldStringS_3 : Code := (Bb (C6 Try.f100)).getD 0 .skip
def A5 (v0 : List ByteArray) (v1 : Int) (v5 : Int) : Nat := ((v0.length : Int) - v5).toNat + 1
noncomputable def Bv {R : Type}  (NX : ((List ByteArray) × (Int) × (Int) × Unit) → Option R) (X2 : ((Int) × Unit) → Option R) (X1 : ((Int) × Unit) → Option R) (v0 : List ByteArray) (v1 : Int) (v5 : Int) : Option R :=
 bif decide (v5 < nI v0.length) then bif decide (0 ≤ v5) then bif decide (v5 < nI v0.length) then ((Ao v1).bind fun val => some ((val, ()), ())).bind fun val => bif !ByteArray.toList (v0.getD v5.toNat (ByteArray.mk #[])) == ByteArray.toList val.1.1 then X1 (-1, ()) else NX (v0, IntKind.i64.wrap (v1 + 1), IntKind.i64.wrap (v5 + 1), ()) else none else none else X2 (v1, ())
noncomputable def Af : Nat → (List ByteArray) → (Int) → (Int) →  Option (((Int) × Unit) ⊕ ((Int) × Unit))
 | 0, _, _, _ => none
 | m + 1, v0, v1, v5 => Bv  (fun d => Af m d.1 d.2.1 d.2.2.1) (fun d => some (.inl (d))) (fun d => some (.inr (d))) v0 v1 v5
noncomputable def D6 (a0 : List ByteArray) (a1 : Int) : Option ((((Int) × Unit) × (Unit))) :=
 ((fun d => Af (A5 d.1 d.2.1 d.2.2.1) d.1 d.2.1 d.2.2.1) (a0, a1, 0, ())).bind fun val => Fe (fun d => some (d, ())) (fun d => some (d, ())) val
theorem Ln (a0 : List ByteArray) (a1 : Int) r (h : Cp a0 a1 = some r) : D6 a0 a1 = some ((r, ()), (())) := by
 obtain ⟨g0, g1, hl0, rfl⟩ := Mj (t := .str) h
 have hl : a0.length ≤ 1125899906842624 := hl0
 have hEE : (fun k : Int => (show ByteArray from (Yc .str k).1)) = (fun k : Int => Dl (k)) := funext fun k => by
  show Dl (k) = Dl (k)
  try simp only [Int.add_assoc, Int.add_zero]
  try rfl
 show _ = some ((if Lw (α := ByteArray) Lc a0 (gL (fun k : Int => (show ByteArray from (Yc .str k).1)) 1 a0.length a1) = true then a1 + (a0.length : Int) * 1 else -1, ()), ())
 rw [hEE]
 unfold D6
 have hL := Le (xs := a0) (ByteArray.mk #[]) Lc (fun k : Int => Dl (k)) 1 (K := 36028797018963000) (g := fun m k i => Af m a0 k i) (ok := fun k => .inl (k, ())) (bad := .inr (-1, ())) (fun m i k hi h1 hK => by
  show Af (m + 1) a0 k i = bif Lc (List.getD (α := ByteArray) a0 i (ByteArray.mk #[])) ((fun k : Int => Dl (k)) k) then Af m a0 (k + 1) ((i + 1 : Nat) : Int) else _
  have hK1 : k + 1 ≤ 36028797018963000 := by
   have : (1 : Int) ≤ (a0.length - i : Nat) := by omega
   omega
  have hE : Lc (List.getD (α := ByteArray) a0 i (ByteArray.mk #[])) ((fun k : Int => Dl (k)) k) = Lc (List.getD (α := ByteArray) a0 i (ByteArray.mk #[])) (Dl (k + 0)) := by
   try simp only [Int.add_zero]
   try rfl
  rw [hE, show Af (m + 1) a0 k i = Af (m + 1) a0 (k + 0) i from by rw [Int.add_zero]]
  have k0 : k = k + 0 := (Int.add_zero k).symm
  have t0 : Ao (k + 0) = some (Dl (k + 0)) := if_pos (by omega)
  have w0 : IntKind.i64.wrap (k + 0 + 1) = k + 1 := by rw [Ey (by omega) (by omega)]; omega
  have v0 : (!(ByteArray.toList (List.getD (α := ByteArray) a0 i (ByteArray.mk #[])) == ByteArray.toList (Dl (k + 0)))) = !Lc (List.getD (α := ByteArray) a0 i (ByteArray.mk #[])) (Dl (k + 0)) := rfl
  simp only [Af, Bv]
  simp only [t0,  Option.bind_some, w0,  i7 hi, Wv, wI (show i < 4611686018427387904 by omega), cond_true, Int.toNat_natCast, v0]
  generalize Lc (List.getD (α := ByteArray) a0 i (ByteArray.mk #[])) (Dl (k + 0)) = p0
  cases p0 <;> rfl) (fun m k => by
  show Af (m + 1) a0 k a0.length = _
  simp only [Af, Bv]
  rw [Wu]
  rfl) (A5 a0 a1 0) 0 a1 (by omega) (by simp [A5]) g0 (by omega)
 have hL' : Af (A5 a0 a1 0) a0 a1 0 = _ := hL
 show (Af (A5 a0 a1 0) a0 a1 0).bind _ = some ((if Lw (α := ByteArray) Lc a0 (gL (fun k : Int => Dl (k)) 1 a0.length a1) = true then a1 + (a0.length : Int) * 1 else -1, ()), ())
 rw [hL', List.drop_zero]
 cases Lw (α := ByteArray) Lc a0 (gL (fun k : Int => Dl (k)) 1 a0.length a1) <;> rfl
noncomputable def Fh {R : Type} (k : Kt R) := (Fe (Tj (pa_laws_heldStringS 3) (.exit 0) 2 k) (Tj (pa_laws_heldStringS 3) .ret 1 k))
noncomputable def Hf {R : Type} : Lt R pa_laws_heldStringS := (Mi (pat := pa_laws_heldStringS) 3 (fun d k => (Af (A5 d.1 d.2.1 d.2.2.1) d.1 d.2.1 d.2.2.1).bind (Fh k)) Jz)
theorem Gk : A2 Try.prog ta_laws_heldStringS := B1 ⟨Cg, trivial⟩
theorem Jy {R : Type} : Cb Try.prog R 22 0 pa_laws_heldStringS Hf co_laws_heldStringS_3 :=
 G3 (cfg := ⟨ta_laws_heldStringS, 0, 22, pa_laws_heldStringS⟩) 3 [] (fun NX X d => Bv  NX (fun e => X (.inl (e))) (fun e => X (.inr (e))) d.1 d.2.1 d.2.2.1) (fun m d => Af m d.1 d.2.1 d.2.2.1) (fun d => A5 d.1 d.2.1 d.2.2.1) Fh Gk trivial (fun f NX d => by unfold Bv; simp only [By, Ci, Bh, Option.bind_assoc, Option.bind_none, Option.bind_some]) (fun _ _ _ => by kernel_rfl)
theorem Gl : Db Try.prog 100 sd_laws_heldStringS :=
 B2 (pat := pa_laws_heldStringS) [co_laws_heldStringS_3] Hf Gk ⟨Jy, trivial⟩ Try.func100 (de := fun x => D6 x.1 x.2.1) (fun x r h => Bt (Ln x.1 x.2.1) h) fun _ => by kernel_rfl
def Di (a : List Wr) (k : Int) : Option Int := Ff Df a k
def Mu : Sig := ⟨[.rd (.sl Df), .rd tI], [none, none], [.rd tI], [none]⟩
noncomputable def sd_laws_heldWriteS : SD := ⟨Mu, fun x => (Di x.1 x.2.1).bind fun r => some ((r, ()), (()))⟩
noncomputable def ta_laws_heldWriteS : Tb := tb [(116, sd_laws_markText)]
def pa_laws_heldWriteS : Nat → Pat × (Nat → Pat) := Lh [(3, ⟨[.sl 0 0 Df], [(0, .lf (.d (.sl Df))), (1, .lf (.d tI)), (5, .lf (.d tI))], []⟩, [(2, ⟨[], [(1, .lf (.d tI))], []⟩), (1, ⟨[], [(4, .lf (.d tI))], []⟩)])]
noncomputable def co_laws_heldWriteS_3 : Code := (Bb (C6 Try.f127)).getD 0 .skip
def A9 (v0 : List Wr) (v1 : Int) (v5 : Int) : Nat := ((v0.length : Int) - v5).toNat + 1
noncomputable def B5 {R : Type}  (NX : ((List Wr) × (Int) × (Int) × Unit) → Option R) (X2 : ((Int) × Unit) → Option R) (X1 : ((Int) × Unit) → Option R) (v0 : List Wr) (v1 : Int) (v5 : Int) : Option R :=
 bif decide (v5 < nI v0.length) then bif decide (0 ≤ v5) then bif decide (v5 < nI v0.length) then bif (v0.getD v5.toNat (0, ByteArray.mk #[], ())).1 != v1 then X1 (-1, ()) else bif decide (0 ≤ v5) then bif decide (v5 < nI v0.length) then ((Ao (IntKind.i64.wrap (v1 + 1))).bind fun val => some ((val, ()), ())).bind fun val => bif !ByteArray.toList (v0.getD v5.toNat (0, ByteArray.mk #[], ())).2.1 == ByteArray.toList val.1.1 then X1 (-1, ()) else NX (v0, IntKind.i64.wrap (IntKind.i64.wrap (v1 + 1) + 1), IntKind.i64.wrap (v5 + 1), ()) else none else none else none else none else X2 (v1, ())
noncomputable def Ag : Nat → (List Wr) → (Int) → (Int) →  Option (((Int) × Unit) ⊕ ((Int) × Unit))
 | 0, _, _, _ => none
 | m + 1, v0, v1, v5 => B5  (fun d => Ag m d.1 d.2.1 d.2.2.1) (fun d => some (.inl (d))) (fun d => some (.inr (d))) v0 v1 v5
noncomputable def Ej (a0 : List Wr) (a1 : Int) : Option ((((Int) × Unit) × (Unit))) :=
 ((fun d => Ag (A9 d.1 d.2.1 d.2.2.1) d.1 d.2.1 d.2.2.1) (a0, a1, 0, ())).bind fun val => Fe (fun d => some (d, ())) (fun d => some (d, ())) val
theorem Mv (a0 : List Wr) (a1 : Int) r (h : Di a0 a1 = some r) : Ej a0 a1 = some ((r, ()), (())) := by
 obtain ⟨g0, g1, hl0, rfl⟩ := Mj (t := Df) h
 have hl : a0.length ≤ 1125899906842624 := hl0
 have hEE : (fun k : Int => (show Wr from (Yc Df k).1)) = (fun k : Int => (k, Dl (k + 1), ())) := funext fun k => by
  show (k, Dl (k + 1), ()) = (k, Dl (k + 1), ())
  try simp only [Int.add_assoc, Int.add_zero]
  try rfl
 show _ = some ((if Lw (α := Wr) (fun x y : Wr => D1 Df x y) a0 (gL (fun k : Int => (show Wr from (Yc Df k).1)) 2 a0.length a1) = true then a1 + (a0.length : Int) * 2 else -1, ()), ())
 rw [hEE]
 unfold Ej
 have hL := Le (xs := a0) (0, (ByteArray.mk #[]), ()) (fun x y : Wr => D1 Df x y) (fun k : Int => (k, Dl (k + 1), ())) 2 (K := 36028797018963000) (g := fun m k i => Ag m a0 k i) (ok := fun k => .inl (k, ())) (bad := .inr (-1, ())) (fun m i k hi h1 hK => by
  show Ag (m + 1) a0 k i = bif (fun x y : Wr => D1 Df x y) (List.getD (α := Wr) a0 i (0, (ByteArray.mk #[]), ())) ((fun k : Int => (k, Dl (k + 1), ())) k) then Ag m a0 (k + 2) ((i + 1 : Nat) : Int) else _
  have hK1 : k + 2 ≤ 36028797018963000 := by
   have : (1 : Int) ≤ (a0.length - i : Nat) := by omega
   omega
  have hE : (fun x y : Wr => D1 Df x y) (List.getD (α := Wr) a0 i (0, (ByteArray.mk #[]), ())) ((fun k : Int => (k, Dl (k + 1), ())) k) = (I0 (List.getD (α := Wr) a0 i (0, (ByteArray.mk #[]), ())).1 (k + 0) && (Lc (List.getD (α := Wr) a0 i (0, (ByteArray.mk #[]), ())).2.1 (Dl (k + 1)) && true)) := by
   try simp only [Int.add_zero]
   try rfl
  rw [hE, show Ag (m + 1) a0 k i = Ag (m + 1) a0 (k + 0) i from by rw [Int.add_zero]]
  have k0 : k = k + 0 := (Int.add_zero k).symm
  have t1 : Ao (k + 1) = some (Dl (k + 1)) := if_pos (by omega)
  have w0 : IntKind.i64.wrap (k + 0 + 1) = k + 1 := by rw [Ey (by omega) (by omega)]; omega
  have w1 : IntKind.i64.wrap (k + 1 + 1) = k + 2 := by rw [Ey (by omega) (by omega)]; omega
  have v0 : ((List.getD (α := Wr) a0 i (0, (ByteArray.mk #[]), ())).1 != k + 0) = !I0 (List.getD (α := Wr) a0 i (0, (ByteArray.mk #[]), ())).1 (k + 0) := Qu _ _
  have v1 : (!(ByteArray.toList (List.getD (α := Wr) a0 i (0, (ByteArray.mk #[]), ())).2.1 == ByteArray.toList (Dl (k + 1)))) = !Lc (List.getD (α := Wr) a0 i (0, (ByteArray.mk #[]), ())).2.1 (Dl (k + 1)) := rfl
  simp only [Ag, B5]
  simp only [t1,  Option.bind_some, w0, w1,  i7 hi, Wv, wI (show i < 4611686018427387904 by omega), cond_true, Int.toNat_natCast, v0, v1]
  generalize I0 (List.getD (α := Wr) a0 i (0, (ByteArray.mk #[]), ())).1 (k + 0) = p0
  generalize Lc (List.getD (α := Wr) a0 i (0, (ByteArray.mk #[]), ())).2.1 (Dl (k + 1)) = p1
  cases p0 <;> cases p1 <;> rfl) (fun m k => by
  show Ag (m + 1) a0 k a0.length = _
  simp only [Ag, B5]
  rw [Wu]
  rfl) (A9 a0 a1 0) 0 a1 (by omega) (by simp [A9]) g0 (by omega)
 have hL' : Ag (A9 a0 a1 0) a0 a1 0 = _ := hL
 show (Ag (A9 a0 a1 0) a0 a1 0).bind _ = some ((if Lw (α := Wr) (fun x y : Wr => D1 Df x y) a0 (gL (fun k : Int => (k, Dl (k + 1), ())) 2 a0.length a1) = true then a1 + (a0.length : Int) * 2 else -1, ()), ())
 rw [hL', List.drop_zero]
 cases Lw (α := Wr) (fun x y : Wr => D1 Df x y) a0 (gL (fun k : Int => (k, Dl (k + 1), ())) 2 a0.length a1) <;> rfl
noncomputable def F4 {R : Type} (k : Kt R) := (Fe (Tj (pa_laws_heldWriteS 3) (.exit 0) 2 k) (Tj (pa_laws_heldWriteS 3) .ret 1 k))
noncomputable def H3 {R : Type} : Lt R pa_laws_heldWriteS := (Mi (pat := pa_laws_heldWriteS) 3 (fun d k => (Ag (A9 d.1 d.2.1 d.2.2.1) d.1 d.2.1 d.2.2.1).bind (F4 k)) Jz)
theorem Hg : A2 Try.prog ta_laws_heldWriteS := B1 ⟨Cg, trivial⟩
theorem Ky {R : Type} : Cb Try.prog R 32 0 pa_laws_heldWriteS H3 co_laws_heldWriteS_3 :=
 G3 (cfg := ⟨ta_laws_heldWriteS, 0, 32, pa_laws_heldWriteS⟩) 3 [] (fun NX X d => B5  NX (fun e => X (.inl (e))) (fun e => X (.inr (e))) d.1 d.2.1 d.2.2.1) (fun m d => Ag m d.1 d.2.1 d.2.2.1) (fun d => A9 d.1 d.2.1 d.2.2.1) F4 Hg trivial (fun f NX d => by unfold B5; simp only [By, Ci, Bh, Option.bind_assoc, Option.bind_none, Option.bind_some]) (fun _ _ _ => by kernel_rfl)
theorem Mw : Db Try.prog 127 sd_laws_heldWriteS :=
 B2 (pat := pa_laws_heldWriteS) [co_laws_heldWriteS_3] H3 Hg ⟨Ky, trivial⟩ Try.func127 (de := fun x => Ej x.1 x.2.1) (fun x r h => Bt (Mv x.1 x.2.1) h) fun _ => by kernel_rfl
def Dd (a : Dk) (k : Int) : Option Int := (Ff .str a.1 k).bind fun r0 => if r0 < 0 then some (-1) else (Ff Df a.2.1 r0).bind fun r1 =>  some (if r1 < 0 then -1 else r1)
def P6 : Sig := ⟨[.rd Y9, .rd tI], [some 2, none], [.rd tI], [none]⟩
noncomputable def sd_laws_heldDisk : SD := ⟨P6, fun x => (Dd x.1 x.2.1).bind fun r => some ((r, ()), (()))⟩
noncomputable def Fu (a0 : Dk) (a1 : Int) : Option ((((Int) × Unit) × (Unit))) :=
 ((Cp a0.1 a1).bind fun val => some ((val, ()), ())).bind fun val => bif decide (val.1.1 < 0) then some ((-1, ()), ()) else ((Di a0.2.1 val.1.1).bind fun val => some ((val, ()), ())).bind fun val => bif decide (val.1.1 < 0) then some ((-1, ()), ()) else some val
theorem P7 (a0 : Dk) (a1 : Int) r (h : Dd a0 a1 = some r) : Fu a0 a1 = some ((r, ()), (())) := by
 unfold Dd at h
 unfold Fu
 obtain ⟨r0, e0, h⟩ := Option.bind_eq_some_iff.1 h
 have e0 : Ff .str a0.1 a1 = some r0 := e0
 simp only [Cp, Di]
 simp only [e0, Option.bind_some]
 by_cases q0 : r0 < 0
 ·simp only [if_pos q0] at h; cases h; simp only [if_pos q0, decide_eq_true q0, cond_true, show decide ((-1 : Int) < 0) = true from rfl]
 ·simp only [if_neg q0] at h; simp only [if_neg q0, decide_eq_false q0, cond_false]
  obtain ⟨r1, e1, h⟩ := Option.bind_eq_some_iff.1 h
  have e1 : Ff Df a0.2.1 r0 = some r1 := e1
  simp only [e1, Option.bind_some]
  by_cases q1 : r1 < 0
  ·simp only [if_pos q1] at h; cases h; simp only [if_pos q1, decide_eq_true q1, cond_true, show decide ((-1 : Int) < 0) = true from rfl]
  ·simp only [if_neg q1] at h; cases h; simp only [if_neg q1, decide_eq_false q1, cond_false]
theorem P8 : Db Try.prog 97 sd_laws_heldDisk :=
 B2 (pat := D8) [] Jz (B1 (l := [(100, sd_laws_heldStringS), (127, sd_laws_heldWriteS)]) ⟨Gl, Mw, trivial⟩) trivial Try.func97 (de := fun x => Fu x.1 x.2.1) (fun x r h => Bt (P7 x.1 x.2.1) h) fun _ => by kernel_rfl
def B0 (a : List Pr2) (k : Int) : Option Int := Ff B8 a k
def Oi : Sig := ⟨[.rd (.sl B8), .rd tI], [none, none], [.rd tI], [none]⟩
noncomputable def sd_laws_heldPairS : SD := ⟨Oi, fun x => (B0 x.1 x.2.1).bind fun r => some ((r, ()), (()))⟩
noncomputable def ta_laws_heldPairS : Tb := tb [(116, sd_laws_markText)]
def pa_laws_heldPairS : Nat → Pat × (Nat → Pat) := Lh [(3, ⟨[.sl 0 0 B8], [(0, .lf (.d (.sl B8))), (1, .lf (.d tI)), (5, .lf (.d tI))], []⟩, [(2, ⟨[], [(1, .lf (.d tI))], []⟩), (1, ⟨[], [(4, .lf (.d tI))], []⟩)])]
noncomputable def co_laws_heldPairS_3 : Code := (Bb (C6 Try.f129)).getD 0 .skip
def Be (v0 : List Pr2) (v1 : Int) (v5 : Int) : Nat := ((v0.length : Int) - v5).toNat + 1
noncomputable def Ca {R : Type}  (NX : ((List Pr2) × (Int) × (Int) × Unit) → Option R) (X2 : ((Int) × Unit) → Option R) (X1 : ((Int) × Unit) → Option R) (v0 : List Pr2) (v1 : Int) (v5 : Int) : Option R :=
 bif decide (v5 < nI v0.length) then bif decide (0 ≤ v5) then bif decide (v5 < nI v0.length) then ((Ao v1).bind fun val => some ((val, ()), ())).bind fun val => bif !ByteArray.toList (v0.getD v5.toNat (ByteArray.mk #[], ByteArray.mk #[], ())).1 == ByteArray.toList val.1.1 then X1 (-1, ()) else bif decide (0 ≤ v5) then bif decide (v5 < nI v0.length) then ((Ao (IntKind.i64.wrap (v1 + 1))).bind fun val => some ((val, ()), ())).bind fun val => bif !ByteArray.toList (v0.getD v5.toNat (ByteArray.mk #[], ByteArray.mk #[], ())).2.1 == ByteArray.toList val.1.1 then X1 (-1, ()) else NX (v0, IntKind.i64.wrap (IntKind.i64.wrap (v1 + 1) + 1), IntKind.i64.wrap (v5 + 1), ()) else none else none else none else none else X2 (v1, ())
noncomputable def Ak : Nat → (List Pr2) → (Int) → (Int) →  Option (((Int) × Unit) ⊕ ((Int) × Unit))
 | 0, _, _, _ => none
 | m + 1, v0, v1, v5 => Ca  (fun d => Ak m d.1 d.2.1 d.2.2.1) (fun d => some (.inl (d))) (fun d => some (.inr (d))) v0 v1 v5
noncomputable def E6 (a0 : List Pr2) (a1 : Int) : Option ((((Int) × Unit) × (Unit))) :=
 ((fun d => Ak (Be d.1 d.2.1 d.2.2.1) d.1 d.2.1 d.2.2.1) (a0, a1, 0, ())).bind fun val => Fe (fun d => some (d, ())) (fun d => some (d, ())) val
theorem Oj (a0 : List Pr2) (a1 : Int) r (h : B0 a0 a1 = some r) : E6 a0 a1 = some ((r, ()), (())) := by
 obtain ⟨g0, g1, hl0, rfl⟩ := Mj (t := B8) h
 have hl : a0.length ≤ 1125899906842624 := hl0
 have hEE : (fun k : Int => (show Pr2 from (Yc B8 k).1)) = (fun k : Int => (Dl (k), Dl (k + 1), ())) := funext fun k => by
  show (Dl (k), Dl (k + 1), ()) = (Dl (k), Dl (k + 1), ())
  try simp only [Int.add_assoc, Int.add_zero]
  try rfl
 show _ = some ((if Lw (α := Pr2) (fun x y : Pr2 => D1 B8 x y) a0 (gL (fun k : Int => (show Pr2 from (Yc B8 k).1)) 2 a0.length a1) = true then a1 + (a0.length : Int) * 2 else -1, ()), ())
 rw [hEE]
 unfold E6
 have hL := Le (xs := a0) ((ByteArray.mk #[]), (ByteArray.mk #[]), ()) (fun x y : Pr2 => D1 B8 x y) (fun k : Int => (Dl (k), Dl (k + 1), ())) 2 (K := 36028797018963000) (g := fun m k i => Ak m a0 k i) (ok := fun k => .inl (k, ())) (bad := .inr (-1, ())) (fun m i k hi h1 hK => by
  show Ak (m + 1) a0 k i = bif (fun x y : Pr2 => D1 B8 x y) (List.getD (α := Pr2) a0 i ((ByteArray.mk #[]), (ByteArray.mk #[]), ())) ((fun k : Int => (Dl (k), Dl (k + 1), ())) k) then Ak m a0 (k + 2) ((i + 1 : Nat) : Int) else _
  have hK1 : k + 2 ≤ 36028797018963000 := by
   have : (1 : Int) ≤ (a0.length - i : Nat) := by omega
   omega
  have hE : (fun x y : Pr2 => D1 B8 x y) (List.getD (α := Pr2) a0 i ((ByteArray.mk #[]), (ByteArray.mk #[]), ())) ((fun k : Int => (Dl (k), Dl (k + 1), ())) k) = (Lc (List.getD (α := Pr2) a0 i ((ByteArray.mk #[]), (ByteArray.mk #[]), ())).1 (Dl (k + 0)) && (Lc (List.getD (α := Pr2) a0 i ((ByteArray.mk #[]), (ByteArray.mk #[]), ())).2.1 (Dl (k + 1)) && true)) := by
   try simp only [Int.add_zero]
   try rfl
  rw [hE, show Ak (m + 1) a0 k i = Ak (m + 1) a0 (k + 0) i from by rw [Int.add_zero]]
  have k0 : k = k + 0 := (Int.add_zero k).symm
  have t0 : Ao (k + 0) = some (Dl (k + 0)) := if_pos (by omega)
  have t1 : Ao (k + 1) = some (Dl (k + 1)) := if_pos (by omega)
  have w0 : IntKind.i64.wrap (k + 0 + 1) = k + 1 := by rw [Ey (by omega) (by omega)]; omega
  have w1 : IntKind.i64.wrap (k + 1 + 1) = k + 2 := by rw [Ey (by omega) (by omega)]; omega
  have v0 : (!(ByteArray.toList (List.getD (α := Pr2) a0 i ((ByteArray.mk #[]), (ByteArray.mk #[]), ())).1 == ByteArray.toList (Dl (k + 0)))) = !Lc (List.getD (α := Pr2) a0 i ((ByteArray.mk #[]), (ByteArray.mk #[]), ())).1 (Dl (k + 0)) := rfl
  have v1 : (!(ByteArray.toList (List.getD (α := Pr2) a0 i ((ByteArray.mk #[]), (ByteArray.mk #[]), ())).2.1 == ByteArray.toList (Dl (k + 1)))) = !Lc (List.getD (α := Pr2) a0 i ((ByteArray.mk #[]), (ByteArray.mk #[]), ())).2.1 (Dl (k + 1)) := rfl
  simp only [Ak, Ca]
  simp only [t0, t1,  Option.bind_some, w0, w1,  i7 hi, Wv, wI (show i < 4611686018427387904 by omega), cond_true, Int.toNat_natCast, v0, v1]
  generalize Lc (List.getD (α := Pr2) a0 i ((ByteArray.mk #[]), (ByteArray.mk #[]), ())).1 (Dl (k + 0)) = p0
  generalize Lc (List.getD (α := Pr2) a0 i ((ByteArray.mk #[]), (ByteArray.mk #[]), ())).2.1 (Dl (k + 1)) = p1
  cases p0 <;> cases p1 <;> rfl) (fun m k => by
  show Ak (m + 1) a0 k a0.length = _
  simp only [Ak, Ca]
  rw [Wu]
  rfl) (Be a0 a1 0) 0 a1 (by omega) (by simp [Be]) g0 (by omega)
 have hL' : Ak (Be a0 a1 0) a0 a1 0 = _ := hL
 show (Ak (Be a0 a1 0) a0 a1 0).bind _ = some ((if Lw (α := Pr2) (fun x y : Pr2 => D1 B8 x y) a0 (gL (fun k : Int => (Dl (k), Dl (k + 1), ())) 2 a0.length a1) = true then a1 + (a0.length : Int) * 2 else -1, ()), ())
 rw [hL', List.drop_zero]
 cases Lw (α := Pr2) (fun x y : Pr2 => D1 B8 x y) a0 (gL (fun k : Int => (Dl (k), Dl (k + 1), ())) 2 a0.length a1) <;> rfl
noncomputable def Gm {R : Type} (k : Kt R) := (Fe (Tj (pa_laws_heldPairS 3) (.exit 0) 2 k) (Tj (pa_laws_heldPairS 3) .ret 1 k))
noncomputable def Ix {R : Type} : Lt R pa_laws_heldPairS := (Mi (pat := pa_laws_heldPairS) 3 (fun d k => (Ak (Be d.1 d.2.1 d.2.2.1) d.1 d.2.1 d.2.2.1).bind (Gm k)) Jz)
theorem H4 : A2 Try.prog ta_laws_heldPairS := B1 ⟨Cg, trivial⟩
theorem Lo {R : Type} : Cb Try.prog R 33 0 pa_laws_heldPairS Ix co_laws_heldPairS_3 :=
 G3 (cfg := ⟨ta_laws_heldPairS, 0, 33, pa_laws_heldPairS⟩) 3 [] (fun NX X d => Ca  NX (fun e => X (.inl (e))) (fun e => X (.inr (e))) d.1 d.2.1 d.2.2.1) (fun m d => Ak m d.1 d.2.1 d.2.2.1) (fun d => Be d.1 d.2.1 d.2.2.1) Gm H4 trivial (fun f NX d => by unfold Ca; simp only [By, Ci, Bh, Option.bind_assoc, Option.bind_none, Option.bind_some]) (fun _ _ _ => by kernel_rfl)
theorem H5 : Db Try.prog 129 sd_laws_heldPairS :=
 B2 (pat := pa_laws_heldPairS) [co_laws_heldPairS_3] Ix H4 ⟨Lo, trivial⟩ Try.func129 (de := fun x => E6 x.1 x.2.1) (fun x r h => Bt (Oj x.1 x.2.1) h) fun _ => by kernel_rfl
def C2 (a : Stt) (k : Int) : Option Int := (Ff B8 a.1 k).bind fun r0 =>  some (if r0 < 0 then -1 else r0)
def Ok : Sig := ⟨[.rd Cc, .rd tI], [some 1, none], [.rd tI], [none]⟩
noncomputable def sd_laws_heldState : SD := ⟨Ok, fun x => (C2 x.1 x.2.1).bind fun r => some ((r, ()), (()))⟩
noncomputable def E7 (a0 : Stt) (a1 : Int) : Option ((((Int) × Unit) × (Unit))) :=
 ((B0 a0.1 a1).bind fun val => some ((val, ()), ())).bind fun val => bif decide (val.1.1 < 0) then some ((-1, ()), ()) else some val
theorem Ol (a0 : Stt) (a1 : Int) r (h : C2 a0 a1 = some r) : E7 a0 a1 = some ((r, ()), (())) := by
 unfold C2 at h
 unfold E7
 obtain ⟨r0, e0, h⟩ := Option.bind_eq_some_iff.1 h
 have e0 : Ff B8 a0.1 a1 = some r0 := e0
 simp only [B0]
 simp only [e0, Option.bind_some]
 by_cases q0 : r0 < 0
 ·simp only [if_pos q0] at h; cases h; simp only [if_pos q0, decide_eq_true q0, cond_true, show decide ((-1 : Int) < 0) = true from rfl]
 ·simp only [if_neg q0] at h; cases h; simp only [if_neg q0, decide_eq_false q0, cond_false]
theorem Om : Db Try.prog 128 sd_laws_heldState :=
 B2 (pat := D8) [] Jz (B1 (l := [(129, sd_laws_heldPairS)]) ⟨H5, trivial⟩) trivial Try.func128 (de := fun x => E7 x.1 x.2.1) (fun x r h => Bt (Ol x.1 x.2.1) h) fun _ => by kernel_rfl
def C3 (a : Sto) (k : Int) : Option Int := (Ff B8 a.2.2.2.2.2.2.1.1 k).bind fun r0 =>  some (if r0 < 0 then -1 else r0)
def On : Sig := ⟨[.rd Nz, .rd tI], [some 10, none], [.rd tI], [none]⟩
noncomputable def sd_laws_heldStore : SD := ⟨On, fun x => (C3 x.1 x.2.1).bind fun r => some ((r, ()), (()))⟩
noncomputable def E8 (a0 : Sto) (a1 : Int) : Option ((((Int) × Unit) × (Unit))) :=
 ((C2 a0.2.2.2.2.2.2.1 a1).bind fun val => some ((val, ()), ())).bind fun val => bif decide (val.1.1 < 0) then some ((-1, ()), ()) else some val
theorem Oo (a0 : Sto) (a1 : Int) r (h : C3 a0 a1 = some r) : E8 a0 a1 = some ((r, ()), (())) := by
 unfold C3 at h
 unfold E8
 obtain ⟨r0, e0, h⟩ := Option.bind_eq_some_iff.1 h
 have e0 : Ff B8 a0.2.2.2.2.2.2.1.1 a1 = some r0 := e0
 simp only [C2]
 simp only [e0, Option.bind_some]
 by_cases q0 : r0 < 0
 ·simp only [if_pos q0] at h; cases h; simp only [if_pos q0, decide_eq_true q0, cond_true, show decide ((-1 : Int) < 0) = true from rfl]
 ·simp only [if_neg q0] at h; cases h; simp only [if_neg q0, decide_eq_false q0, cond_false]
theorem Oq : Db Try.prog 98 sd_laws_heldStore :=
 B2 (pat := D8) [] Jz (B1 (l := [(128, sd_laws_heldState)]) ⟨Om, trivial⟩) trivial Try.func98 (de := fun x => E8 x.1 x.2.1) (fun x r h => Bt (Oo x.1 x.2.1) h) fun _ => by kernel_rfl
def Mx : Sig := ⟨[.rd (.sl Cc), .rd tI], [none, none], [.rd tI], [none]⟩
noncomputable def ta_laws_heldStateS : Tb := tb [(129, sd_laws_heldPairS)]
def pa_laws_heldStateS : Nat → Pat × (Nat → Pat) := Lh [(3, ⟨[.sl 0 0 Cc], [(0, .lf (.d (.sl Cc))), (1, .lf (.d tI)), (5, .lf (.d tI))], []⟩, [(2, ⟨[], [(1, .lf (.d tI))], []⟩), (1, ⟨[], [(4, .lf (.d tI))], []⟩)])]
noncomputable def co_laws_heldStateS_3 : Code := (Bb (C6 Try.f99)).getD 0 .skip
def Dv (v0 : List Stt) (v1 : Int) (v5 : Int) : Nat := ((v0.length : Int) - v5).toNat + 1
noncomputable def Dw {R : Type}  (NX : ((List Stt) × (Int) × (Int) × Unit) → Option R) (X2 : ((Int) × Unit) → Option R) (X1 : ((Int) × Unit) → Option R) (v0 : List Stt) (v1 : Int) (v5 : Int) : Option R :=
 bif decide (v5 < nI v0.length) then bif decide (0 ≤ v5) then bif decide (v5 < nI v0.length) then ((B0 (v0.getD v5.toNat ([], ())).1 v1).bind fun val => some ((val, ()), ())).bind fun val => bif decide (val.1.1 < 0) then X1 (-1, ()) else NX (v0, val.1.1, IntKind.i64.wrap (v5 + 1), ()) else none else none else X2 (v1, ())
noncomputable def B6 : Nat → (List Stt) → (Int) → (Int) →  Option (((Int) × Unit) ⊕ ((Int) × Unit))
 | 0, _, _, _ => none
 | m + 1, v0, v1, v5 => Dw  (fun d => B6 m d.1 d.2.1 d.2.2.1) (fun d => some (.inl (d))) (fun d => some (.inr (d))) v0 v1 v5
noncomputable def C8 (a0 : List Stt) (a1 : Int) : Option ((((Int) × Unit) × (Unit))) :=
 ((fun d => B6 (Dv d.1 d.2.1 d.2.2.1) d.1 d.2.1 d.2.2.1) (a0, a1, 0, ())).bind fun val => Fe (fun d => some (d, ())) (fun d => some (d, ())) val
noncomputable def sd_laws_heldStateS : SD := ⟨Mx, fun x => C8 x.1 x.2.1⟩
noncomputable def F5 {R : Type} (k : Kt R) := (Fe (Tj (pa_laws_heldStateS 3) (.exit 0) 2 k) (Tj (pa_laws_heldStateS 3) .ret 1 k))
noncomputable def H6 {R : Type} : Lt R pa_laws_heldStateS := (Mi (pat := pa_laws_heldStateS) 3 (fun d k => (B6 (Dv d.1 d.2.1 d.2.2.1) d.1 d.2.1 d.2.2.1).bind (F5 k)) Jz)
theorem Hh : A2 Try.prog ta_laws_heldStateS := B1 ⟨H5, trivial⟩
theorem Kz {R : Type} : Cb Try.prog R 22 0 pa_laws_heldStateS H6 co_laws_heldStateS_3 :=
 G3 (cfg := ⟨ta_laws_heldStateS, 0, 22, pa_laws_heldStateS⟩) 3 [] (fun NX X d => Dw  NX (fun e => X (.inl (e))) (fun e => X (.inr (e))) d.1 d.2.1 d.2.2.1) (fun m d => B6 m d.1 d.2.1 d.2.2.1) (fun d => Dv d.1 d.2.1 d.2.2.1) F5 Hh trivial (fun f NX d => by unfold Dw; simp only [By, Ci, Bh, Option.bind_assoc, Option.bind_none, Option.bind_some]) (fun _ _ _ => by kernel_rfl)
theorem My : Db Try.prog 99 sd_laws_heldStateS :=
 B2 (pat := pa_laws_heldStateS) [co_laws_heldStateS_3] H6 Hh ⟨Kz, trivial⟩ Try.func99 (de := fun x => C8 x.1 x.2.1) (fun x r h => h) fun _ => by kernel_rfl
def Ot : Sig := ⟨[.rd Za, .rd tI], [some 16, none], [.rd tI], [none]⟩
noncomputable def Bp (a0 : Wld) (a1 : Int) : Option ((((Int) × Unit) × (Unit))) :=
 ((Dd a0.2.1 a1).bind fun val => some ((val, ()), ())).bind fun val => bif decide (val.1.1 < 0) then some ((-1, ()), ()) else ((C3 a0.2.2.2.1 val.1.1).bind fun val => some ((val, ()), ())).bind fun val => bif decide (val.1.1 < 0) then some ((-1, ()), ()) else (C8 a0.2.2.2.2.1 val.1.1).bind fun val => bif decide (val.1.1 < 0) then some ((-1, ()), ()) else ((Cp a0.2.2.2.2.2.1 val.1.1).bind fun val => some ((val, ()), ())).bind fun val => bif decide (val.1.1 < 0) then some ((-1, ()), ()) else some val
noncomputable def sd_laws_heldWorld : SD := ⟨Ot, fun x => Bp x.1 x.2.1⟩
theorem Ou : Db Try.prog 37 sd_laws_heldWorld :=
 B2 (pat := D8) [] Jz (B1 (l := [(97, sd_laws_heldDisk), (98, sd_laws_heldStore), (99, sd_laws_heldStateS), (100, sd_laws_heldStringS)]) ⟨P8, Oq, My, Gl, trivial⟩) trivial Try.func37 (de := fun x => Bp x.1 x.2.1) (fun x r h => h) fun _ => by kernel_rfl
def Iy : Sig := ⟨[.rd tI, .rd tI], [none, none], [.rd .bool], [none]⟩
noncomputable def Bk (a0 : Int) (a1 : Int) : Option ((((Bool) × Unit) × (Unit))) :=
 (Ce a0 a1).bind fun val => (Bz a0 a1).bind fun val_1 => ((Ds (val_1.1.1, (val_1.1.2.1, val_1.1.2.2.1, ()), val_1.1.2.2.2.1, (val_1.1.2.2.2.2.1, val_1.1.2.2.2.2.2.1, val_1.1.2.2.2.2.2.2.1, (val_1.1.2.2.2.2.2.2.2.1, val_1.1.2.2.2.2.2.2.2.2.1, val_1.1.2.2.2.2.2.2.2.2.2.1, val_1.1.2.2.2.2.2.2.2.2.2.2.1, ()), val_1.1.2.2.2.2.2.2.2.2.2.2.2.1, val_1.1.2.2.2.2.2.2.2.2.2.2.2.2.1, (val_1.1.2.2.2.2.2.2.2.2.2.2.2.2.2.1, ()), ()), val_1.1.2.2.2.2.2.2.2.2.2.2.2.2.2.2) (val.1.1, (val.1.2.1, val.1.2.2.1, ()), val.1.2.2.2.1, (val.1.2.2.2.2.1, val.1.2.2.2.2.2.1, val.1.2.2.2.2.2.2.1, (val.1.2.2.2.2.2.2.2.1, val.1.2.2.2.2.2.2.2.2.1, val.1.2.2.2.2.2.2.2.2.2.1, val.1.2.2.2.2.2.2.2.2.2.2.1, ()), val.1.2.2.2.2.2.2.2.2.2.2.2.1, val.1.2.2.2.2.2.2.2.2.2.2.2.2.1, (val.1.2.2.2.2.2.2.2.2.2.2.2.2.2.1, ()), ()), val.1.2.2.2.2.2.2.2.2.2.2.2.2.2.2)).bind fun val => some ((val, ()), ())).bind fun val_2 => bif !val_2.1.1 then some ((false, ()), ()) else (B7 val_1.1.1 val_1.1.2.1 val_1.1.2.2.1 val_1.1.2.2.2.1 val_1.1.2.2.2.2.1 val_1.1.2.2.2.2.2.1 val_1.1.2.2.2.2.2.2.1 val_1.1.2.2.2.2.2.2.2.1 val_1.1.2.2.2.2.2.2.2.2.1 val_1.1.2.2.2.2.2.2.2.2.2.1 val_1.1.2.2.2.2.2.2.2.2.2.2.1 val_1.1.2.2.2.2.2.2.2.2.2.2.2.1 val_1.1.2.2.2.2.2.2.2.2.2.2.2.2.1 val_1.1.2.2.2.2.2.2.2.2.2.2.2.2.2.1 val_1.1.2.2.2.2.2.2.2.2.2.2.2.2.2.2.1 val_1.1.2.2.2.2.2.2.2.2.2.2.2.2.2.2.2.1 1).bind fun val_3 => (Bp (val_1.1.1, (val_3.2.1, val_3.2.2.1, ()), val_1.1.2.2.2.1, (val_1.1.2.2.2.2.1, val_1.1.2.2.2.2.2.1, val_1.1.2.2.2.2.2.2.1, (val_1.1.2.2.2.2.2.2.2.1, val_1.1.2.2.2.2.2.2.2.2.1, val_1.1.2.2.2.2.2.2.2.2.2.1, val_1.1.2.2.2.2.2.2.2.2.2.2.1, ()), val_1.1.2.2.2.2.2.2.2.2.2.2.2.1, val_1.1.2.2.2.2.2.2.2.2.2.2.2.2.1, (val_1.1.2.2.2.2.2.2.2.2.2.2.2.2.2.1, ()), ()), val_1.1.2.2.2.2.2.2.2.2.2.2.2.2.2.2.1, val_3.2.2.2) 1).bind fun val_4 => bif decide (val_4.1.1 < 0) then some ((false, ()), ()) else bif val_4.1.1 != val_3.1.1 then some ((false, ()), ()) else (Bz a0 a1).bind fun val_5 => ((Ds (val_5.1.1, (val_5.1.2.1, val_5.1.2.2.1, ()), val_5.1.2.2.2.1, (val_5.1.2.2.2.2.1, val_5.1.2.2.2.2.2.1, val_5.1.2.2.2.2.2.2.1, (val_5.1.2.2.2.2.2.2.2.1, val_5.1.2.2.2.2.2.2.2.2.1, val_5.1.2.2.2.2.2.2.2.2.2.1, val_5.1.2.2.2.2.2.2.2.2.2.2.1, ()), val_5.1.2.2.2.2.2.2.2.2.2.2.2.1, val_5.1.2.2.2.2.2.2.2.2.2.2.2.2.1, (val_5.1.2.2.2.2.2.2.2.2.2.2.2.2.2.1, ()), ()), val_5.1.2.2.2.2.2.2.2.2.2.2.2.2.2.2) (val.1.1, (val.1.2.1, val.1.2.2.1, ()), val.1.2.2.2.1, (val.1.2.2.2.2.1, val.1.2.2.2.2.2.1, val.1.2.2.2.2.2.2.1, (val.1.2.2.2.2.2.2.2.1, val.1.2.2.2.2.2.2.2.2.1, val.1.2.2.2.2.2.2.2.2.2.1, val.1.2.2.2.2.2.2.2.2.2.2.1, ()), val.1.2.2.2.2.2.2.2.2.2.2.2.1, val.1.2.2.2.2.2.2.2.2.2.2.2.2.1, (val.1.2.2.2.2.2.2.2.2.2.2.2.2.2.1, ()), ()), val.1.2.2.2.2.2.2.2.2.2.2.2.2.2.2)).bind fun val => some ((val, ()), ())).bind fun val => bif !val.1.1 then some ((false, ()), ()) else (Bp (val_1.1.1, (val_3.2.1, val_3.2.2.1, ()), val_1.1.2.2.2.1, (val_1.1.2.2.2.2.1, val_1.1.2.2.2.2.2.1, val_1.1.2.2.2.2.2.2.1, (val_1.1.2.2.2.2.2.2.2.1, val_1.1.2.2.2.2.2.2.2.2.1, val_1.1.2.2.2.2.2.2.2.2.2.1, val_1.1.2.2.2.2.2.2.2.2.2.2.1, ()), val_1.1.2.2.2.2.2.2.2.2.2.2.2.1, val_1.1.2.2.2.2.2.2.2.2.2.2.2.2.1, (val_1.1.2.2.2.2.2.2.2.2.2.2.2.2.2.1, ()), ()), val_1.1.2.2.2.2.2.2.2.2.2.2.2.2.2.2.1, val_3.2.2.2) 1).bind fun val => bif decide (val.1.1 < 0) then some ((false, ()), ()) else bif val.1.1 != val_3.1.1 then some ((false, ()), ()) else some ((true, ()), ())
noncomputable def sd_laws_FnExactNewWorld : SD := ⟨Iy, fun x => Bk x.1 x.2.1⟩
theorem X8 {t : Ty} {k : Int} (h1 : 1 ≤ k) (h2 : k ≤ 1125899906842624) : Ff t ([] : List t.D) k = some k := by
 obtain ⟨k2, ys, m1, m2, m3, m4⟩ := b8 (t := t) (xs := []) (k := k) (i5 t) rfl h1 h2 (Nat.zero_le _)
 have e := X6 (t := t) (xs := []) h1 h2 (Nat.zero_le _)
 rw [m1] at e
 cases e
 have m4 : Ff t ([] : List t.D) k = some (k + ((0 : Nat) : Int) * (i5 t : Int)) := m4
 rw [m4]
 simp
def nwW (w : Int) (D : Dk) (P : List Stt) : Wld := (w, (D.1, D.2.1, ()), false, (0, 0, 0, (0, 0, 0, 0, ()), 0, 0, ([], ()), ()), P, [], ())
theorem Zh {P : List Stt} (hP : P = [] ∨ P = [([], ())]) (k : Int) : C7 P k = some ((k, ()), ()) := by
 rcases hP with rfl | rfl <;> rfl
theorem Zi {P : List Stt} (hP : P = [] ∨ P = [([], ())]) {k : Int} (h1 : 1 ≤ k) (h2 : k ≤ 1125899906842624) : C8 P k = some ((k, ()), ()) := by
 have hn : B0 [] k = some k := X8 h1 h2
 rcases hP with rfl | rfl
 ·rfl
 ·have nk : decide (k < 0) = false := decide_eq_false (by omega)
  refine Mk (a := .inl (k, ())) ?_ rfl
  show (((B0 [] k).bind fun val => some ((val, ()), ())).bind fun val => bif decide (val.1.1 < 0) then some (.inr (-1, ())) else B6 1 [([], ())] val.1.1 (IntKind.i64.wrap (0 + 1))) = some (.inl (k, ()))
  refine Mk (Mk hn rfl) ?_
  show (bif decide (k < 0) then _ else _) = _
  rw [nk]
  rfl
theorem z8 {a0 a1 w : Int} {D : Dk} {P : List Stt} (hD : G5 Y9 D = true) (hP : P = [] ∨ P = [([], ())])
  (hs : Ce a0 a1 = some ((w, D.1, D.2.1, false, 0, 0, 0, 0, 0, 0, 0, 0, 0, [], P, [], ()), ()))
  (hi : Bz a0 a1 = some ((w, D.1, D.2.1, false, 0, 0, 0, 0, 0, 0, 0, 0, 0, [], P, [], ()), ())) : Bk a0 a1 = some ((true, ()), ()) := by
 have hW : G5 Za (nwW w D P) = true := by
  have hp : G5 (.sl Cc) P = true := by rcases hP with rfl | rfl <;> rfl
  show (true && (G5 Y9 D && (true && (true && (G5 (.sl Cc) P && true))))) = true
  rw [hD, hp]
  rfl
 have ev : Ds (nwW w D P) (nwW w D P) = some true := y5 (t := Za) (Lg hW)
 have Lz0 := hD
 simp only [G5, Bool.and_eq_true, decide_eq_true_eq] at Lz0
 obtain ⟨k0, y0, m0, b0, c0, d0⟩ := b8 (t := .str) (xs := D.1) (k := 1) 1 rfl (by omega) (by omega) Lz0.1.1
 obtain ⟨k1, y1, m1, b1, c1, d1⟩ := b8 (t := Df) (xs := D.2.1) (k := k0) 2 rfl (by omega) (by omega) Lz0.2.1.1
 obtain ⟨k2, y2, m2, b2, c2, d2⟩ := b8 (t := .str) (xs := []) (k := k1) 1 rfl (by omega) (by omega) (Nat.zero_le _)
 have md : Dc (D.1, D.2.1, ()) 1 = some (k1, y0, y1) := Mk m0 (Mk m1 rfl)
 have mw : B7 w D.1 D.2.1 false 0 0 0 0 0 0 0 0 0 [] P [] 1 = some ((k2, ()), y0, y1, y2, ()) := by
  unfold B7
  refine Mk (Mk md rfl) ?_
  refine Mk (a := ((k1, ()), ())) rfl ?_
  refine Mk (Zh hP k1) ?_
  exact Mk (Mk m2 rfl) rfl
 have n0 : decide (k0 < 0) = false := decide_eq_false (by omega)
 have n1 : decide (k1 < 0) = false := decide_eq_false (by omega)
 have n2 : decide (k2 < 0) = false := decide_eq_false (by omega)
 have nn0 : ¬ k0 < 0 := by omega
 have nn1 : ¬ k1 < 0 := by omega
 have hd : Dd (y0, y1, ()) 1 = some k1 := Mk d0 ((if_neg nn0).trans (Mk d1 (congrArg some (if_neg nn1))))
 have hst : C3 (0, 0, 0, (0, 0, 0, 0, ()), 0, 0, ([], ()), ()) k1 = some k1 := Mk (X8 (by omega) (by omega)) (congrArg some (if_neg nn1))
 have hw : Bp (w, (y0, y1, ()), false, (0, 0, 0, (0, 0, 0, 0, ()), 0, 0, ([], ()), ()), P, y2, ()) 1 = some ((k2, ()), ()) := by
  unfold Bp
  refine Mk (Mk hd rfl) ?_
  show (bif decide (k1 < 0) then _ else _) = _
  rw [n1]
  refine Mk (Mk hst rfl) ?_
  show (bif decide (k1 < 0) then _ else _) = _
  rw [n1]
  refine Mk (Zi hP (k := k1) (by omega) (by omega)) ?_
  show (bif decide (k1 < 0) then _ else _) = _
  rw [n1]
  refine Mk (Mk (a := k2) d2 rfl) ?_
  show (bif decide (k2 < 0) then _ else _) = _
  rw [n2]
  rfl
 unfold Bk
 refine Mk hs (Mk hi (Mk (Mk ev rfl) ?_))
 show (B7 w D.1 D.2.1 false 0 0 0 0 0 0 0 0 0 [] P [] 1).bind _ = _
 refine Mk mw (Mk hw ?_)
 show (bif decide (k2 < 0) then _ else bif k2 != k2 then _ else _) = _
 rw [n2, bne_self_eq_false]
 refine Mk hi (Mk (Mk ev rfl) ?_)
 show (Bp (w, (y0, y1, ()), false, (0, 0, 0, (0, 0, 0, 0, ()), 0, 0, ([], ()), ()), P, y2, ()) 1).bind _ = _
 refine Mk hw ?_
 show (bif decide (k2 < 0) then _ else bif k2 != k2 then _ else _) = _
 rw [n2, bne_self_eq_false]
 rfl
theorem Lp (a0 a1 : Int) (h0 : Nx tI a0) (h1 : Nx tI a1) : Bk a0 a1 = some ((true, ()), ()) := by
 have e1 : A3 a0 = Eb a0 := rfl
 have e2 : B3 a0 = Eb a0 := rfl
 have ew : Ec a1 = some ((J0 a1 1 8, ()), ()) := wid a1
 by_cases hc : (J0 a0 8 200 && J0 a1 1 8) = true
 ·obtain ⟨c0, c1⟩ := Jw hc
  have hn : Eb a0 = (List.replicate a0.toNat zS, [], ()) := by unfold Eb; rw [c0]; rfl
  have hb := Vk c0
  refine z8 (w := a1) (D := Eb a0) (P := [([], ())]) (Wx _) (.inr rfl) ?_ ?_
  ·unfold Ce
   have : (nI (A3 a0).1.length == 0) = false := by
    rw [e1, hn]
    simp [nI]
    omega
   rw [this, ew, c1]
   rfl
  ·unfold Bz
   have : De a0 8 200 = true := c0
   rw [this]
   have : De a1 1 8 = true := c1
   rw [this]
   rfl
 ·refine z8 (w := 0) (D := ([], [], ())) (P := []) rfl (.inl rfl) ?_ ?_
  ·unfold Ce
   cases c0 : J0 a0 8 200 with
   | false =>
    have : (nI (A3 a0).1.length == 0) = true := by
     rw [e1]
     unfold Eb
     rw [c0]
     rfl
    rw [this]
    rfl
   | true =>
    have c1 : J0 a1 1 8 = false := by
     cases c1 : J0 a1 1 8 with
     | false => rfl
     | true => rw [c0, c1] at hc; exact absurd rfl hc
    rw [ew, c1]
    cases nI (A3 a0).1.length == 0 <;> rfl
  ·unfold Bz
   have i0 : De a0 8 200 = J0 a0 8 200 := rfl
   have i1 : De a1 1 8 = J0 a1 1 8 := rfl
   rw [i0, i1]
   cases c0 : J0 a0 8 200 with
   | false => rfl
   | true =>
    cases c1 : J0 a1 1 8 with
    | false => rfl
    | true => rw [c0, c1] at hc; exact absurd rfl hc
theorem Iz : Db Try.prog 6 sd_laws_FnExactNewWorld :=
 B2 (pat := D8) [] Jz (B1 (l := [(33, sd_spec_NewWorld), (34, sd_impl_NewWorld), (35, sd_laws_eqWorld), (36, sd_laws_markWorld), (37, sd_laws_heldWorld)]) ⟨Pq, Pt, Rj, Oh, Ou, trivial⟩) trivial Try.func6 (de := fun x => Bk x.1 x.2.1) (fun x r h => h) fun _ => by kernel_rfl
end Go.Proofs.Ytkfoebbjncngjaa.V

