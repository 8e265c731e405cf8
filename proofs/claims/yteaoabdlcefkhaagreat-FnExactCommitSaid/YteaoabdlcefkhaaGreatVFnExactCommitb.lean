/- What the functions that FnExactCommit reaches come to: part 2. No condition. -/
import Derived.Test.YteaoabdlcefkhaaGreatVFnExactCommita
import Derived.KernelRfl
namespace Go.Proofs.YteaoabdlcefkhaaGreat.V
open Go Go.Proofs.YteaoabdlcefkhaaGreat.R Go.Proofs
set_option maxRecDepth 100000
set_option linter.unusedVariables false
set_option linter.unusedSimpArgs false
def Aq (k : Int) : Option ByteArray := if k ≤ 36028797018963968 then some (Hu k) else none
def E7 (v0 : Int) (v3 : ByteArray) : Nat := 21
def d4 : Sig := ⟨[.rd tI], [none], [.rd .str], [none]⟩
noncomputable def sd_laws_markText : SD := ⟨d4, fun x => (Aq x.1).bind fun r => some ((r, ()), (()))⟩
noncomputable def ta_laws_markText : Tb := tb []
def pa_laws_markText : Nat → Pat × (Nat → Pat) := Gw [(5, ⟨[], [(0, .lf (.d tI)), (3, .lf (.d .str))], []⟩, [(2, ⟨[], [(3, .lf (.d .str))], []⟩)])]
noncomputable def co_laws_markText_5 : Code := (An (Bn Tryz.f99)).getD 0 .skip
noncomputable def E8 {R : Type}  (NX : ((Int) × (ByteArray) × Unit) → Option R) (X2 : ((ByteArray) × Unit) → Option R) (v0 : Int) (v3 : ByteArray) : Option R :=
 bif decide (v0 > 0) then bif decide ((strOfNums [IntKind.u8.wrap (IntKind.i64.wrap (48 + v0.tmod 10))]).size + v3.size ≤ 9223372036854775807) then NX (IntKind.i64.wrap (v0.tdiv 10), strOfNums [IntKind.u8.wrap (IntKind.i64.wrap (48 + v0.tmod 10))] ++ v3, ()) else none else X2 (v3, ())
noncomputable def Bw : Nat → (Int) → (ByteArray) →  Option ((ByteArray) × Unit)
 | 0, _, _ => none
 | m + 1, v0, v3 => E8  (fun d => Bw m d.1 d.2.1) (fun d => some (d)) v0 v3
noncomputable def Km (a0 : Int) : Option ((((ByteArray) × Unit) × (Unit))) :=
 bif decide (a0 ≤ 0) then some ((ByteArray.mk #[109, 48], ()), ()) else ((fun d => Bw (E7 d.1 d.2.1) d.1 d.2.1) (a0, ByteArray.mk #[], ())).bind fun val => bif decide ((ByteArray.mk #[109]).size + ByteArray.size val.1 ≤ 9223372036854775807) then some ((ByteArray.mk #[109] ++ val.1, ()), ()) else none
theorem Al9 {k : Int} (h : 0 ≤ k) : IntKind.wrap .u8 (IntKind.wrap .i64 (48 + Int.tmod k 10)) = 48 + k % 10 := by
 rw [Int.tmod_eq_emod_of_nonneg h]
 have h1 : 0 ≤ k % 10 := Int.emod_nonneg _ (by omega)
 have h2 : k % 10 < 10 := Int.emod_lt_of_pos _ (by omega)
 have e1 : IntKind.wrap .i64 (48 + k % 10) = 48 + k % 10 := Ae (by omega) (by omega)
 rw [e1]
 simp [IntKind.wrap, IntKind.bits, IntKind.signed]
 omega
theorem Pp : ∀ (m : Nat) (k : Int) (out : ByteArray), 0 ≤ k → k ≤ 36028797018963968 → k < 10 ^ m → out.size + m ≤ 100 → Bw (m + 1) k out = some (R9 m k out, ())
 | 0, k, out, h0, hb, h1, _ => by
  simp only [Bw, E8]
  have : ¬ k > 0 := by simp at h1; omega
  rw [decide_eq_false this]
  rfl
 | m + 1, k, out, h0, hb, h1, h2 => by
  rw [Bw]
  simp only [E8, R9]
  by_cases h : k > 0
  ·have e : IntKind.wrap .i64 (Int.tdiv k 10) = k / 10 := by
    rw [Int.tdiv_eq_ediv_of_nonneg h0]
    exact Ae (by omega) (by omega)
   have hs : ByteArray.size (strOfNums [48 + k % 10]) = 1 := strOfNums_size _
   have h3 : k / 10 < 10 ^ m := Int.ediv_lt_of_lt_mul (by omega) (by rw [Int.pow_succ] at h1; exact h1)
   have c : ByteArray.size (strOfNums [48 + k % 10]) + ByteArray.size out ≤ 9223372036854775807 := by rw [hs]; omega
   have ih := Pp m (k / 10) (strOfNums [48 + k % 10] ++ out) (by omega) (by omega) h3 (by rw [ByteArray.size_append, hs]; omega)
   rw [Al9 h0, decide_eq_true h, if_pos h, e, decide_eq_true c]
   exact ih
  ·rw [decide_eq_false h, if_neg h]
   rfl
theorem l7 : ∀ (m : Nat) (k : Int) (out : ByteArray), (R9 m k out).size ≤ out.size + m
 | 0, k, out => Nat.le_refl _
 | m + 1, k, out => by
  simp only [R9]
  split
  ·have := l7 m (k / 10) (strOfNums [48 + k % 10] ++ out)
   rw [ByteArray.size_append, strOfNums_size] at this
   simp at this
   omega
  ·omega
theorem d5 (a0 : Int) r (h : Aq a0 = some r) : Km a0 = some ((r, ()), (())) := by
 unfold Aq at h
 split at h
 ·rename_i hc
  cases h
  unfold Km Hu
  by_cases q : a0 ≤ 0
  ·rw [decide_eq_true q, if_pos q]; rfl
  ·rw [decide_eq_false q, if_neg q]
   have hL := Pp 20 a0 ⟨#[]⟩ (by omega) hc (by omega) (by decide)
   have hL' : Bw (E7 a0 ⟨#[]⟩) a0 ⟨#[]⟩ = _ := hL
   show (Bw (E7 a0 ⟨#[]⟩) a0 ⟨#[]⟩).bind _ = _
   rw [hL']
   have := l7 20 a0 ⟨#[]⟩
   have h0 : ByteArray.size ⟨#[]⟩ = 0 := rfl
   have h1 : ByteArray.size ⟨#[109]⟩ = 1 := rfl
   have c : ByteArray.size ⟨#[109]⟩ + ByteArray.size (R9 20 a0 ⟨#[]⟩) ≤ 9223372036854775807 := by omega
   show (bif decide (ByteArray.size ⟨#[109]⟩ + ByteArray.size (R9 20 a0 ⟨#[]⟩) ≤ 9223372036854775807) then _ else _) = _
   rw [decide_eq_true c]
   rfl
 ·cases h
noncomputable def M6 {R : Type} (k : Kt R) := (Ln (pa_laws_markText 5) (.exit 0) 2 k)
noncomputable def Rh {R : Type} : Lt R pa_laws_markText := (Gb (pat := pa_laws_markText) 5 (fun d k => (Bw (E7 d.1 d.2.1) d.1 d.2.1).bind (M6 k)) F5)
theorem Pq : At Tryz.prog ta_laws_markText := Ax trivial
theorem V3 {R : Type} : Ba Tryz.prog R 20 0 pa_laws_markText Rh co_laws_markText_5 :=
 Dd (cfg := ⟨ta_laws_markText, 0, 20, pa_laws_markText⟩) 5 [] (fun NX X d => E8  NX X d.1 d.2.1) (fun m d => Bw m d.1 d.2.1) (fun d => E7 d.1 d.2.1) M6 Pq trivial (fun f NX d => by unfold E8; simp only [Am, Az, Ai, Option.bind_assoc, Option.bind_none, Option.bind_some]) (fun _ _ _ => by kernel_rfl)
theorem F2 : Bs Tryz.prog 99 sd_laws_markText :=
 Av (pat := pa_laws_markText) [co_laws_markText_5] Rh Pq ⟨V3, trivial⟩ Tryz.func99 (de := fun x => Km x.1) (fun x r h => Ay (d5 x.1) h) fun _ => by kernel_rfl
def Hq (a : List Pr2) (k : Int) : Option (Int × (List Pr2)) := Hs Af a k
def X7 : Sig := ⟨[.mu 167 Af, .rd tI], [none, none], [.rd tI], [none]⟩
noncomputable def sd_laws_markPairS : SD := ⟨X7, fun x => (Hq x.1 x.2.1).bind fun r => some ((r.1, ()), (r.2, ()))⟩
noncomputable def ta_laws_markPairS : Tb := tb [(99, sd_laws_markText)]
def pa_laws_markPairS : Nat → Pat × (Nat → Pat) := Gw [(3, ⟨[], [(0, .lf (.row 0)), (1, .lf (.d tI)), (5, .lf (.d tI))], [.row 167 Af]⟩, [(2, ⟨[], [(1, .lf (.d tI))], [.row 167 Af]⟩)])]
noncomputable def co_laws_markPairS_3 : Code := (An (Bn Tryz.f130)).getD 0 .skip
def Ch (v1 : Int) (v5 : Int) (r0 : List Pr2) : Nat := ((r0.length : Int) - v5).toNat + 1
noncomputable def Ei {R : Type}  (NX : ((Int) × (Int) × (List Pr2) × Unit) → Option R) (X2 : ((Int) × (List Pr2) × Unit) → Option R) (v1 : Int) (v5 : Int) (r0 : List Pr2) : Option R :=
 bif decide (v5 < nI r0.length) then ((Aq v1).bind fun val => some ((val, ()), ())).bind fun val => bif decide (0 ≤ v5) then bif decide (v5 < nI r0.length) then bif decide (v5.toNat < r0.length) then ((Aq (IntKind.i64.wrap (v1 + 1))).bind fun val => some ((val, ()), ())).bind fun val_1 => bif decide (0 ≤ v5) then bif decide (v5 < nI (r0.set v5.toNat (val.1.1, (r0.getD v5.toNat (ByteArray.mk #[], ByteArray.mk #[], ())).2)).length) then bif decide (v5.toNat < (r0.set v5.toNat (val.1.1, (r0.getD v5.toNat (ByteArray.mk #[], ByteArray.mk #[], ())).2)).length) then NX (IntKind.i64.wrap (IntKind.i64.wrap (v1 + 1) + 1), IntKind.i64.wrap (v5 + 1), (r0.set v5.toNat (val.1.1, (r0.getD v5.toNat (ByteArray.mk #[], ByteArray.mk #[], ())).2)).set v5.toNat (((r0.set v5.toNat (val.1.1, (r0.getD v5.toNat (ByteArray.mk #[], ByteArray.mk #[], ())).2)).getD v5.toNat (ByteArray.mk #[], ByteArray.mk #[], ())).1, val_1.1), ()) else none else none else none else none else none else none else X2 (v1, r0, ())
noncomputable def Aw : Nat → (Int) → (Int) → (List Pr2) →  Option ((Int) × (List Pr2) × Unit)
 | 0, _, _, _ => none
 | m + 1, v1, v5, r0 => Ei  (fun d => Aw m d.1 d.2.1 d.2.2.1) (fun d => some (d)) v1 v5 r0
noncomputable def Jp (a0 : List Pr2) (a1 : Int) : Option ((((Int) × Unit) × Stt)) :=
 ((fun d => Aw (Ch d.1 d.2.1 d.2.2.1) d.1 d.2.1 d.2.2.1) (a1, 0, a0, ())).bind fun val => some ((val.1, ()), val.2)
theorem X8 (a0 : List Pr2) (a1 : Int) r (h : Hq a0 a1 = some r) : Jp a0 a1 = some ((r.1, ()), (r.2, ())) := by
 obtain ⟨g0, g1, hl0, rfl⟩ := Va (t := Af) h
 have hl : a0.length ≤ 1125899906842624 := hl0
 have hEE : (fun k : Int => (show Pr2 from (mkE Af k).1)) = (fun k : Int => (Hu (k), Hu (k + 1), ())) := funext fun k => by
  show (Hu (k), Hu (k + 1), ()) = (Hu (k), Hu (k + 1), ())
  try simp only [Int.add_assoc, Int.add_zero]
  try rfl
 show _ = some ((a1 + (a0.length : Int) * 2, ()), (gL (fun k : Int => (show Pr2 from (mkE Af k).1)) 2 a0.length a1, ()))
 rw [hEE]
 unfold Jp
 have hL := Tm (fun k : Int => (Hu (k), Hu (k + 1), ())) 2 (n := a0.length) (K := 36028797018963000) (g := fun m k i r => Aw m k i r) (ok := fun k r => (k, r, ())) (fun m i k r hi hr h1 hK => by
  show Aw (m + 1) k i r = _
  have hK1 : k + 2 ≤ 36028797018963000 := by
   have : (1 : Int) ≤ (a0.length - i : Nat) := by omega
   omega
  rw [show Aw (m + 1) k i r = Aw (m + 1) (k + 0) i r from by rw [Int.add_zero]]
  have k0 : k = k + 0 := (Int.add_zero k).symm
  have t0 : Aq (k + 0) = some (Hu (k + 0)) := if_pos (by omega)
  have t1 : Aq (k + 1) = some (Hu (k + 1)) := if_pos (by omega)
  have w0 : IntKind.i64.wrap (k + 0 + 1) = k + 1 := by rw [Ae (by omega) (by omega)]; omega
  have w1 : IntKind.i64.wrap (k + 1 + 1) = k + 2 := by rw [Ae (by omega) (by omega)]; omega
  have hir : i < r.length := by omega
  simp only [Aw, Ei]
  simp only [t0, t1,  Option.bind_some, w0, w1,  List.length_set, List.set_set, Pw hir, Gk, Ap1 hir, wI (show i < 4611686018427387904 by omega), cond_true, Int.toNat_natCast, Gg hir]
  first | rfl | (rw [Int.add_zero]; rfl) | (simp only [Int.add_zero]; rfl)) (fun m k r hr => by
  show Aw (m + 1) k a0.length r = _
  simp only [Aw, Ei, hr]
  rw [I6]
  rfl) (Ch a1 0 a0) 0 a1 a0 (by omega) (by simp [Ch]) rfl g0 (by omega)
 have hL' : Aw (Ch a1 0 a0) a1 0 a0 = _ := hL
 show (Aw (Ch a1 0 a0) a1 0 a0).bind _ = _
 rw [hL']
 rfl
noncomputable def Lv {R : Type} (k : Kt R) := (Ln (pa_laws_markPairS 3) (.exit 0) 2 k)
noncomputable def Ps {R : Type} : Lt R pa_laws_markPairS := (Gb (pat := pa_laws_markPairS) 3 (fun d k => (Aw (Ch d.1 d.2.1 d.2.2.1) d.1 d.2.1 d.2.2.1).bind (Lv k)) F5)
theorem N6 : At Tryz.prog ta_laws_markPairS := Ax ⟨F2, trivial⟩
theorem T4 {R : Type} : Ba Tryz.prog R 29 1 pa_laws_markPairS Ps co_laws_markPairS_3 :=
 Dd (cfg := ⟨ta_laws_markPairS, 1, 29, pa_laws_markPairS⟩) 3 [] (fun NX X d => Ei  NX X d.1 d.2.1 d.2.2.1) (fun m d => Aw m d.1 d.2.1 d.2.2.1) (fun d => Ch d.1 d.2.1 d.2.2.1) Lv N6 trivial (fun f NX d => by unfold Ei; simp only [Am, Az, Ai, Option.bind_assoc, Option.bind_none, Option.bind_some]) (fun _ _ _ => by kernel_rfl)
theorem X9 : Bs Tryz.prog 130 sd_laws_markPairS :=
 Av (pat := pa_laws_markPairS) [co_laws_markPairS_3] Ps N6 ⟨T4, trivial⟩ Tryz.func130 (de := fun x => Jp x.1 x.2.1) (fun x r h => Ay (X8 x.1 x.2.1) h) fun _ => by kernel_rfl
def En (a : Stt) (k : Int) : Option (Int × (List Pr2)) := (Hs Af a.1 k).bind fun r0 =>  some (r0.1, r0.2)
def Ya : Sig := ⟨[.mu 167 Af, .rd tI], [some 1, none], [.rd tI], [none]⟩
noncomputable def sd_laws_markState : SD := ⟨Ya, fun x => (En (x.1, ()) x.2.1).bind fun r => some ((r.1, ()), (r.2, ()))⟩
noncomputable def Jq (a0 : List Pr2) (a1 : Int) : Option ((((Int) × Unit) × Stt)) :=
 ((Hq a0 a1).bind fun val => some ((val.1, ()), val.2, ())).bind fun val => some val
theorem Yb (a0 : List Pr2) (a1 : Int) r (h : En (a0, ()) a1 = some r) : Jq a0 a1 = some ((r.1, ()), (r.2, ())) := by
 unfold En at h
 obtain ⟨⟨k0, x0⟩, e0, h⟩ := Option.bind_eq_some_iff.1 h
 have e0 : Hs Af a0 a1 = some (k0, x0) := e0
 cases h
 unfold Jq
 have c0 : Hq a0 a1 = (some (k0, x0) : Option (Int × (List Pr2))) := e0
 rw [c0]
 simp only [Option.bind_some]
 try rfl
theorem Yc : Bs Tryz.prog 43 sd_laws_markState :=
 Av (pat := Ck) [] F5 (Ax (l := [(130, sd_laws_markPairS)]) ⟨X9, trivial⟩) trivial Tryz.func43 (de := fun x => Jq x.1 x.2.1) (fun x r h => Ay (Yb x.1 x.2.1) h) fun _ => by kernel_rfl
def Cw (a : Sto) (k : Int) : Option (Int × (List Pr2)) := (Hs Af a.2.2.2.2.2.2.1.1 k).bind fun r0 =>  some (r0.1, r0.2)
def Yd : Sig := ⟨[.rd tI, .rd tI, .rd tI, .rd tI, .rd tI, .rd tI, .rd tI, .rd tI, .rd tI, .mu 167 Af, .rd tI], [some 10, none], [.rd tI], [none]⟩
noncomputable def sd_laws_markStore : SD := ⟨Yd, fun x => (Cw (x.1, x.2.1, x.2.2.1, (x.2.2.2.1, x.2.2.2.2.1, x.2.2.2.2.2.1, x.2.2.2.2.2.2.1, ()), x.2.2.2.2.2.2.2.1, x.2.2.2.2.2.2.2.2.1, (x.2.2.2.2.2.2.2.2.2.1, ()), ()) x.2.2.2.2.2.2.2.2.2.2.1).bind fun r => some ((r.1, ()), (r.2, ()))⟩
noncomputable def Jr (a0 : Int) (a1 : Int) (a2 : Int) (a3 : Int) (a4 : Int) (a5 : Int) (a6 : Int) (a7 : Int) (a8 : Int) (a9 : List Pr2) (a10 : Int) : Option ((((Int) × Unit) × Stt)) :=
 ((En (a9, ()) a10).bind fun val => some ((val.1, ()), val.2, ())).bind fun val => some val
theorem Ye (a0 : Int) (a1 : Int) (a2 : Int) (a3 : Int) (a4 : Int) (a5 : Int) (a6 : Int) (a7 : Int) (a8 : Int) (a9 : List Pr2) (a10 : Int) r (h : Cw (a0, a1, a2, (a3, a4, a5, a6, ()), a7, a8, (a9, ()), ()) a10 = some r) : Jr a0 a1 a2 a3 a4 a5 a6 a7 a8 a9 a10 = some ((r.1, ()), (r.2, ())) := by
 unfold Cw at h
 obtain ⟨⟨k0, x0⟩, e0, h⟩ := Option.bind_eq_some_iff.1 h
 have e0 : Hs Af a9 a10 = some (k0, x0) := e0
 cases h
 unfold Jr
 have c0 : En (a9, ()) a10 = (some (k0, x0) : Option (Int × (List Pr2))) := by
  unfold En
  show (Hs Af a9 a10).bind _ = _
  rw [e0]
  rfl
 rw [c0]
 simp only [Option.bind_some]
 try rfl
theorem N7 : Bs Tryz.prog 24 sd_laws_markStore :=
 Av (pat := Ck) [] F5 (Ax (l := [(43, sd_laws_markState)]) ⟨Yc, trivial⟩) trivial Tryz.func24 (de := fun x => Jr x.1 x.2.1 x.2.2.1 x.2.2.2.1 x.2.2.2.2.1 x.2.2.2.2.2.1 x.2.2.2.2.2.2.1 x.2.2.2.2.2.2.2.1 x.2.2.2.2.2.2.2.2.1 x.2.2.2.2.2.2.2.2.2.1 x.2.2.2.2.2.2.2.2.2.2.1) (fun x r h => Ay (Ye x.1 x.2.1 x.2.2.1 x.2.2.2.1 x.2.2.2.2.1 x.2.2.2.2.2.1 x.2.2.2.2.2.2.1 x.2.2.2.2.2.2.2.1 x.2.2.2.2.2.2.2.2.1 x.2.2.2.2.2.2.2.2.2.1 x.2.2.2.2.2.2.2.2.2.2.1) h) fun _ => by kernel_rfl
def Ge (a : List Chg) (k : Int) : Option (Int × (List Chg)) := Hs A2 a k
def T5 : Sig := ⟨[.mu 131 A2, .rd tI], [none, none], [.rd tI], [none]⟩
noncomputable def sd_laws_markChangeS : SD := ⟨T5, fun x => (Ge x.1 x.2.1).bind fun r => some ((r.1, ()), (r.2, ()))⟩
noncomputable def ta_laws_markChangeS : Tb := tb [(99, sd_laws_markText)]
def pa_laws_markChangeS : Nat → Pat × (Nat → Pat) := Gw [(3, ⟨[], [(0, .lf (.row 0)), (1, .lf (.d tI)), (5, .lf (.d tI))], [.row 131 A2]⟩, [(2, ⟨[], [(1, .lf (.d tI))], [.row 131 A2]⟩)])]
noncomputable def co_laws_markChangeS_3 : Code := (An (Bn Tryz.f25)).getD 0 .skip
def B1 (v1 : Int) (v5 : Int) (r0 : List Chg) : Nat := ((r0.length : Int) - v5).toNat + 1
noncomputable def Dh {R : Type}  (NX : ((Int) × (Int) × (List Chg) × Unit) → Option R) (X2 : ((Int) × (List Chg) × Unit) → Option R) (v1 : Int) (v5 : Int) (r0 : List Chg) : Option R :=
 bif decide (v5 < nI r0.length) then ((Aq v1).bind fun val => some ((val, ()), ())).bind fun val => bif decide (0 ≤ v5) then bif decide (v5 < nI r0.length) then bif decide (v5.toNat < r0.length) then ((Aq (IntKind.i64.wrap (v1 + 1))).bind fun val => some ((val, ()), ())).bind fun val_1 => bif decide (0 ≤ v5) then bif decide (v5 < nI (r0.set v5.toNat (val.1.1, (r0.getD v5.toNat (ByteArray.mk #[], ByteArray.mk #[], false, ())).2)).length) then bif decide (v5.toNat < (r0.set v5.toNat (val.1.1, (r0.getD v5.toNat (ByteArray.mk #[], ByteArray.mk #[], false, ())).2)).length) then bif decide (0 ≤ v5) then bif decide (v5 < nI ((r0.set v5.toNat (val.1.1, (r0.getD v5.toNat (ByteArray.mk #[], ByteArray.mk #[], false, ())).2)).set v5.toNat (((r0.set v5.toNat (val.1.1, (r0.getD v5.toNat (ByteArray.mk #[], ByteArray.mk #[], false, ())).2)).getD v5.toNat (ByteArray.mk #[], ByteArray.mk #[], false, ())).1, val_1.1.1, ((r0.set v5.toNat (val.1.1, (r0.getD v5.toNat (ByteArray.mk #[], ByteArray.mk #[], false, ())).2)).getD v5.toNat (ByteArray.mk #[], ByteArray.mk #[], false, ())).2.2)).length) then bif decide (v5.toNat < ((r0.set v5.toNat (val.1.1, (r0.getD v5.toNat (ByteArray.mk #[], ByteArray.mk #[], false, ())).2)).set v5.toNat (((r0.set v5.toNat (val.1.1, (r0.getD v5.toNat (ByteArray.mk #[], ByteArray.mk #[], false, ())).2)).getD v5.toNat (ByteArray.mk #[], ByteArray.mk #[], false, ())).1, val_1.1.1, ((r0.set v5.toNat (val.1.1, (r0.getD v5.toNat (ByteArray.mk #[], ByteArray.mk #[], false, ())).2)).getD v5.toNat (ByteArray.mk #[], ByteArray.mk #[], false, ())).2.2)).length) then NX (IntKind.i64.wrap (IntKind.i64.wrap (IntKind.i64.wrap (v1 + 1) + 1) + 1), IntKind.i64.wrap (v5 + 1), ((r0.set v5.toNat (val.1.1, (r0.getD v5.toNat (ByteArray.mk #[], ByteArray.mk #[], false, ())).2)).set v5.toNat (((r0.set v5.toNat (val.1.1, (r0.getD v5.toNat (ByteArray.mk #[], ByteArray.mk #[], false, ())).2)).getD v5.toNat (ByteArray.mk #[], ByteArray.mk #[], false, ())).1, val_1.1.1, ((r0.set v5.toNat (val.1.1, (r0.getD v5.toNat (ByteArray.mk #[], ByteArray.mk #[], false, ())).2)).getD v5.toNat (ByteArray.mk #[], ByteArray.mk #[], false, ())).2.2)).set v5.toNat ((((r0.set v5.toNat (val.1.1, (r0.getD v5.toNat (ByteArray.mk #[], ByteArray.mk #[], false, ())).2)).set v5.toNat (((r0.set v5.toNat (val.1.1, (r0.getD v5.toNat (ByteArray.mk #[], ByteArray.mk #[], false, ())).2)).getD v5.toNat (ByteArray.mk #[], ByteArray.mk #[], false, ())).1, val_1.1.1, ((r0.set v5.toNat (val.1.1, (r0.getD v5.toNat (ByteArray.mk #[], ByteArray.mk #[], false, ())).2)).getD v5.toNat (ByteArray.mk #[], ByteArray.mk #[], false, ())).2.2)).getD v5.toNat (ByteArray.mk #[], ByteArray.mk #[], false, ())).1, (((r0.set v5.toNat (val.1.1, (r0.getD v5.toNat (ByteArray.mk #[], ByteArray.mk #[], false, ())).2)).set v5.toNat (((r0.set v5.toNat (val.1.1, (r0.getD v5.toNat (ByteArray.mk #[], ByteArray.mk #[], false, ())).2)).getD v5.toNat (ByteArray.mk #[], ByteArray.mk #[], false, ())).1, val_1.1.1, ((r0.set v5.toNat (val.1.1, (r0.getD v5.toNat (ByteArray.mk #[], ByteArray.mk #[], false, ())).2)).getD v5.toNat (ByteArray.mk #[], ByteArray.mk #[], false, ())).2.2)).getD v5.toNat (ByteArray.mk #[], ByteArray.mk #[], false, ())).2.1, (IntKind.i64.wrap (IntKind.i64.wrap (v1 + 1) + 1)).tmod 3 == 0, ()), ()) else none else none else none else none else none else none else none else none else none else X2 (v1, r0, ())
noncomputable def Ao : Nat → (Int) → (Int) → (List Chg) →  Option ((Int) × (List Chg) × Unit)
 | 0, _, _, _ => none
 | m + 1, v1, v5, r0 => Dh  (fun d => Ao m d.1 d.2.1 d.2.2.1) (fun d => some (d)) v1 v5 r0
noncomputable def Hv (a0 : List Chg) (a1 : Int) : Option ((((Int) × Unit) × ((List Chg) × Unit))) :=
 ((fun d => Ao (B1 d.1 d.2.1 d.2.2.1) d.1 d.2.1 d.2.2.1) (a1, 0, a0, ())).bind fun val => some ((val.1, ()), val.2)
theorem T6 (a0 : List Chg) (a1 : Int) r (h : Ge a0 a1 = some r) : Hv a0 a1 = some ((r.1, ()), (r.2, ())) := by
 obtain ⟨g0, g1, hl0, rfl⟩ := Va (t := A2) h
 have hl : a0.length ≤ 1125899906842624 := hl0
 have hEE : (fun k : Int => (show Chg from (mkE A2 k).1)) = (fun k : Int => (Hu (k), Hu (k + 1), decide ((k + 2) % 3 = 0), ())) := funext fun k => by
  show (Hu (k), Hu (k + 1), decide ((k + 1 + 1) % 3 = 0), ()) = (Hu (k), Hu (k + 1), decide ((k + 2) % 3 = 0), ())
  try simp only [Int.add_assoc, Int.add_zero]
  try rfl
 show _ = some ((a1 + (a0.length : Int) * 3, ()), (gL (fun k : Int => (show Chg from (mkE A2 k).1)) 3 a0.length a1, ()))
 rw [hEE]
 unfold Hv
 have hL := Tm (fun k : Int => (Hu (k), Hu (k + 1), decide ((k + 2) % 3 = 0), ())) 3 (n := a0.length) (K := 36028797018963000) (g := fun m k i r => Ao m k i r) (ok := fun k r => (k, r, ())) (fun m i k r hi hr h1 hK => by
  show Ao (m + 1) k i r = _
  have hK1 : k + 3 ≤ 36028797018963000 := by
   have : (1 : Int) ≤ (a0.length - i : Nat) := by omega
   omega
  rw [show Ao (m + 1) k i r = Ao (m + 1) (k + 0) i r from by rw [Int.add_zero]]
  have k0 : k = k + 0 := (Int.add_zero k).symm
  have t0 : Aq (k + 0) = some (Hu (k + 0)) := if_pos (by omega)
  have t1 : Aq (k + 1) = some (Hu (k + 1)) := if_pos (by omega)
  have w0 : IntKind.i64.wrap (k + 0 + 1) = k + 1 := by rw [Ae (by omega) (by omega)]; omega
  have w1 : IntKind.i64.wrap (k + 1 + 1) = k + 2 := by rw [Ae (by omega) (by omega)]; omega
  have w2 : IntKind.i64.wrap (k + 2 + 1) = k + 3 := by rw [Ae (by omega) (by omega)]; omega
  have u2 : (Int.tmod (k + 2) 3 == 0) = decide ((k + 2) % 3 = 0) := Ap2 (by omega)
  have hir : i < r.length := by omega
  simp only [Ao, Dh]
  simp only [t0, t1,  Option.bind_some, w0, w1, w2, u2,  List.length_set, List.set_set, Pw hir, Gk, Ap1 hir, wI (show i < 4611686018427387904 by omega), cond_true, Int.toNat_natCast, Gg hir]
  first | rfl | (rw [Int.add_zero]; rfl) | (simp only [Int.add_zero]; rfl)) (fun m k r hr => by
  show Ao (m + 1) k a0.length r = _
  simp only [Ao, Dh, hr]
  rw [I6]
  rfl) (B1 a1 0 a0) 0 a1 a0 (by omega) (by simp [B1]) rfl g0 (by omega)
 have hL' : Ao (B1 a1 0 a0) a1 0 a0 = _ := hL
 show (Ao (B1 a1 0 a0) a1 0 a0).bind _ = _
 rw [hL']
 rfl
noncomputable def J3 {R : Type} (k : Kt R) := (Ln (pa_laws_markChangeS 3) (.exit 0) 2 k)
noncomputable def M7 {R : Type} : Lt R pa_laws_markChangeS := (Gb (pat := pa_laws_markChangeS) 3 (fun d k => (Ao (B1 d.1 d.2.1 d.2.2.1) d.1 d.2.1 d.2.2.1).bind (J3 k)) F5)
theorem Lw : At Tryz.prog ta_laws_markChangeS := Ax ⟨F2, trivial⟩
theorem Rk {R : Type} : Ba Tryz.prog R 38 1 pa_laws_markChangeS M7 co_laws_markChangeS_3 :=
 Dd (cfg := ⟨ta_laws_markChangeS, 1, 38, pa_laws_markChangeS⟩) 3 [] (fun NX X d => Dh  NX X d.1 d.2.1 d.2.2.1) (fun m d => Ao m d.1 d.2.1 d.2.2.1) (fun d => B1 d.1 d.2.1 d.2.2.1) J3 Lw trivial (fun f NX d => by unfold Dh; simp only [Am, Az, Ai, Option.bind_assoc, Option.bind_none, Option.bind_some]) (fun _ _ _ => by kernel_rfl)
theorem T7 : Bs Tryz.prog 25 sd_laws_markChangeS :=
 Av (pat := pa_laws_markChangeS) [co_laws_markChangeS_3] M7 Lw ⟨Rk, trivial⟩ Tryz.func25 (de := fun x => Hv x.1 x.2.1) (fun x r h => Ay (T6 x.1 x.2.1) h) fun _ => by kernel_rfl
def Js (a : List Opn) (k : Int) : Option (Int × (List Opn)) := Hs B0 a k
def Aaa : Sig := ⟨[.mu 126 B0, .rd tI], [none, none], [.rd tI], [none]⟩
noncomputable def sd_laws_markOpS : SD := ⟨Aaa, fun x => (Js x.1 x.2.1).bind fun r => some ((r.1, ()), (r.2, ()))⟩
noncomputable def ta_laws_markOpS : Tb := tb [(99, sd_laws_markText)]
def pa_laws_markOpS : Nat → Pat × (Nat → Pat) := Gw [(3, ⟨[], [(0, .lf (.row 0)), (1, .lf (.d tI)), (5, .lf (.d tI))], [.row 126 B0]⟩, [(2, ⟨[], [(1, .lf (.d tI))], [.row 126 B0]⟩)])]
noncomputable def co_laws_markOpS_3 : Code := (An (Bn Tryz.f100)).getD 0 .skip
def C9 (v1 : Int) (v5 : Int) (r0 : List Opn) : Nat := ((r0.length : Int) - v5).toNat + 1
noncomputable def Fm {R : Type}  (NX : ((Int) × (Int) × (List Opn) × Unit) → Option R) (X2 : ((Int) × (List Opn) × Unit) → Option R) (v1 : Int) (v5 : Int) (r0 : List Opn) : Option R :=
 bif decide (v5 < nI r0.length) then bif decide (0 ≤ v5) then bif decide (v5 < nI r0.length) then bif decide (v5.toNat < r0.length) then bif decide (0 ≤ v5) then bif decide (v5 < nI (r0.set v5.toNat (v1.tmod 3 == 0, (r0.getD v5.toNat (false, 0, ByteArray.mk #[], ())).2)).length) then bif decide (v5.toNat < (r0.set v5.toNat (v1.tmod 3 == 0, (r0.getD v5.toNat (false, 0, ByteArray.mk #[], ())).2)).length) then ((Aq (IntKind.i64.wrap (IntKind.i64.wrap (v1 + 1) + 1))).bind fun val => some ((val, ()), ())).bind fun val => bif decide (0 ≤ v5) then bif decide (v5 < nI ((r0.set v5.toNat (v1.tmod 3 == 0, (r0.getD v5.toNat (false, 0, ByteArray.mk #[], ())).2)).set v5.toNat (((r0.set v5.toNat (v1.tmod 3 == 0, (r0.getD v5.toNat (false, 0, ByteArray.mk #[], ())).2)).getD v5.toNat (false, 0, ByteArray.mk #[], ())).1, IntKind.i64.wrap (v1 + 1), ((r0.set v5.toNat (v1.tmod 3 == 0, (r0.getD v5.toNat (false, 0, ByteArray.mk #[], ())).2)).getD v5.toNat (false, 0, ByteArray.mk #[], ())).2.2)).length) then bif decide (v5.toNat < ((r0.set v5.toNat (v1.tmod 3 == 0, (r0.getD v5.toNat (false, 0, ByteArray.mk #[], ())).2)).set v5.toNat (((r0.set v5.toNat (v1.tmod 3 == 0, (r0.getD v5.toNat (false, 0, ByteArray.mk #[], ())).2)).getD v5.toNat (false, 0, ByteArray.mk #[], ())).1, IntKind.i64.wrap (v1 + 1), ((r0.set v5.toNat (v1.tmod 3 == 0, (r0.getD v5.toNat (false, 0, ByteArray.mk #[], ())).2)).getD v5.toNat (false, 0, ByteArray.mk #[], ())).2.2)).length) then NX (IntKind.i64.wrap (IntKind.i64.wrap (IntKind.i64.wrap (v1 + 1) + 1) + 1), IntKind.i64.wrap (v5 + 1), ((r0.set v5.toNat (v1.tmod 3 == 0, (r0.getD v5.toNat (false, 0, ByteArray.mk #[], ())).2)).set v5.toNat (((r0.set v5.toNat (v1.tmod 3 == 0, (r0.getD v5.toNat (false, 0, ByteArray.mk #[], ())).2)).getD v5.toNat (false, 0, ByteArray.mk #[], ())).1, IntKind.i64.wrap (v1 + 1), ((r0.set v5.toNat (v1.tmod 3 == 0, (r0.getD v5.toNat (false, 0, ByteArray.mk #[], ())).2)).getD v5.toNat (false, 0, ByteArray.mk #[], ())).2.2)).set v5.toNat ((((r0.set v5.toNat (v1.tmod 3 == 0, (r0.getD v5.toNat (false, 0, ByteArray.mk #[], ())).2)).set v5.toNat (((r0.set v5.toNat (v1.tmod 3 == 0, (r0.getD v5.toNat (false, 0, ByteArray.mk #[], ())).2)).getD v5.toNat (false, 0, ByteArray.mk #[], ())).1, IntKind.i64.wrap (v1 + 1), ((r0.set v5.toNat (v1.tmod 3 == 0, (r0.getD v5.toNat (false, 0, ByteArray.mk #[], ())).2)).getD v5.toNat (false, 0, ByteArray.mk #[], ())).2.2)).getD v5.toNat (false, 0, ByteArray.mk #[], ())).1, (((r0.set v5.toNat (v1.tmod 3 == 0, (r0.getD v5.toNat (false, 0, ByteArray.mk #[], ())).2)).set v5.toNat (((r0.set v5.toNat (v1.tmod 3 == 0, (r0.getD v5.toNat (false, 0, ByteArray.mk #[], ())).2)).getD v5.toNat (false, 0, ByteArray.mk #[], ())).1, IntKind.i64.wrap (v1 + 1), ((r0.set v5.toNat (v1.tmod 3 == 0, (r0.getD v5.toNat (false, 0, ByteArray.mk #[], ())).2)).getD v5.toNat (false, 0, ByteArray.mk #[], ())).2.2)).getD v5.toNat (false, 0, ByteArray.mk #[], ())).2.1, val.1), ()) else none else none else none else none else none else none else none else none else none else X2 (v1, r0, ())
noncomputable def A9 : Nat → (Int) → (Int) → (List Opn) →  Option ((Int) × (List Opn) × Unit)
 | 0, _, _, _ => none
 | m + 1, v1, v5, r0 => Fm  (fun d => A9 m d.1 d.2.1 d.2.2.1) (fun d => some (d)) v1 v5 r0
noncomputable def Ll (a0 : List Opn) (a1 : Int) : Option ((((Int) × Unit) × ((List Opn) × Unit))) :=
 ((fun d => A9 (C9 d.1 d.2.1 d.2.2.1) d.1 d.2.1 d.2.2.1) (a1, 0, a0, ())).bind fun val => some ((val.1, ()), val.2)
theorem Aab (a0 : List Opn) (a1 : Int) r (h : Js a0 a1 = some r) : Ll a0 a1 = some ((r.1, ()), (r.2, ())) := by
 obtain ⟨g0, g1, hl0, rfl⟩ := Va (t := B0) h
 have hl : a0.length ≤ 1125899906842624 := hl0
 have hEE : (fun k : Int => (show Opn from (mkE B0 k).1)) = (fun k : Int => (decide ((k) % 3 = 0), k + 1, Hu (k + 2), ())) := funext fun k => by
  show (decide ((k) % 3 = 0), k + 1, Hu (k + 1 + 1), ()) = (decide ((k) % 3 = 0), k + 1, Hu (k + 2), ())
  try simp only [Int.add_assoc, Int.add_zero]
  try rfl
 show _ = some ((a1 + (a0.length : Int) * 3, ()), (gL (fun k : Int => (show Opn from (mkE B0 k).1)) 3 a0.length a1, ()))
 rw [hEE]
 unfold Ll
 have hL := Tm (fun k : Int => (decide ((k) % 3 = 0), k + 1, Hu (k + 2), ())) 3 (n := a0.length) (K := 36028797018963000) (g := fun m k i r => A9 m k i r) (ok := fun k r => (k, r, ())) (fun m i k r hi hr h1 hK => by
  show A9 (m + 1) k i r = _
  have hK1 : k + 3 ≤ 36028797018963000 := by
   have : (1 : Int) ≤ (a0.length - i : Nat) := by omega
   omega
  rw [show A9 (m + 1) k i r = A9 (m + 1) (k + 0) i r from by rw [Int.add_zero]]
  have k0 : k = k + 0 := (Int.add_zero k).symm
  have t2 : Aq (k + 2) = some (Hu (k + 2)) := if_pos (by omega)
  have w0 : IntKind.i64.wrap (k + 0 + 1) = k + 1 := by rw [Ae (by omega) (by omega)]; omega
  have w1 : IntKind.i64.wrap (k + 1 + 1) = k + 2 := by rw [Ae (by omega) (by omega)]; omega
  have w2 : IntKind.i64.wrap (k + 2 + 1) = k + 3 := by rw [Ae (by omega) (by omega)]; omega
  have u0 : (Int.tmod (k + 0) 3 == 0) = decide ((k + 0) % 3 = 0) := Ap2 (by omega)
  have hir : i < r.length := by omega
  simp only [A9, Fm]
  simp only [t2,  Option.bind_some, w0, w1, w2, u0,  List.length_set, List.set_set, Pw hir, Gk, Ap1 hir, wI (show i < 4611686018427387904 by omega), cond_true, Int.toNat_natCast, Gg hir]
  first | rfl | (rw [Int.add_zero]; rfl) | (simp only [Int.add_zero]; rfl)) (fun m k r hr => by
  show A9 (m + 1) k a0.length r = _
  simp only [A9, Fm, hr]
  rw [I6]
  rfl) (C9 a1 0 a0) 0 a1 a0 (by omega) (by simp [C9]) rfl g0 (by omega)
 have hL' : A9 (C9 a1 0 a0) a1 0 a0 = _ := hL
 show (A9 (C9 a1 0 a0) a1 0 a0).bind _ = _
 rw [hL']
 rfl
noncomputable def N8 {R : Type} (k : Kt R) := (Ln (pa_laws_markOpS 3) (.exit 0) 2 k)
noncomputable def S7 {R : Type} : Lt R pa_laws_markOpS := (Gb (pat := pa_laws_markOpS) 3 (fun d k => (A9 (C9 d.1 d.2.1 d.2.2.1) d.1 d.2.1 d.2.2.1).bind (N8 k)) F5)
theorem Ri : At Tryz.prog ta_laws_markOpS := Ax ⟨F2, trivial⟩
theorem Yf {R : Type} : Ba Tryz.prog R 37 1 pa_laws_markOpS S7 co_laws_markOpS_3 :=
 Dd (cfg := ⟨ta_laws_markOpS, 1, 37, pa_laws_markOpS⟩) 3 [] (fun NX X d => Fm  NX X d.1 d.2.1 d.2.2.1) (fun m d => A9 m d.1 d.2.1 d.2.2.1) (fun d => C9 d.1 d.2.1 d.2.2.1) N8 Ri trivial (fun f NX d => by unfold Fm; simp only [Am, Az, Ai, Option.bind_assoc, Option.bind_none, Option.bind_some]) (fun _ _ _ => by kernel_rfl)
theorem Aac : Bs Tryz.prog 100 sd_laws_markOpS :=
 Av (pat := pa_laws_markOpS) [co_laws_markOpS_3] S7 Ri ⟨Yf, trivial⟩ Tryz.func100 (de := fun x => Ll x.1 x.2.1) (fun x r h => Ay (Aab x.1 x.2.1) h) fun _ => by kernel_rfl
def Gs (a : Don) (k : Int) : Option (Int × (List Pr2) × (List Opn)) := (Hs Af a.2.1.2.2.2.2.2.2.1.1 k).bind fun r0 => (Hs B0 a.2.2.1 r0.1).bind fun r1 =>  some (r1.1, r0.2, r1.2)
def d6 : Sig := ⟨[.rd tI, .rd tI, .rd tI, .rd tI, .rd tI, .rd tI, .rd tI, .rd tI, .rd tI, .rd tI, .mu 167 Af, .mu 126 B0, .rd tI], [some 12, none], [.rd tI], [none]⟩
noncomputable def sd_laws_markDone : SD := ⟨d6, fun x => (Gs (x.1, (x.2.1, x.2.2.1, x.2.2.2.1, (x.2.2.2.2.1, x.2.2.2.2.2.1, x.2.2.2.2.2.2.1, x.2.2.2.2.2.2.2.1, ()), x.2.2.2.2.2.2.2.2.1, x.2.2.2.2.2.2.2.2.2.1, (x.2.2.2.2.2.2.2.2.2.2.1, ()), ()), x.2.2.2.2.2.2.2.2.2.2.2.1, ()) x.2.2.2.2.2.2.2.2.2.2.2.2.1).bind fun r => some ((r.1, ()), (r.2.1, r.2.2, ()))⟩
noncomputable def Kn (a0 : Int) (a1 : Int) (a2 : Int) (a3 : Int) (a4 : Int) (a5 : Int) (a6 : Int) (a7 : Int) (a8 : Int) (a9 : Int) (a10 : List Pr2) (a11 : List Opn) (a12 : Int) : Option ((((Int) × Unit) × ((List Pr2) × (List Opn) × Unit))) :=
 ((Cw (a1, a2, a3, (a4, a5, a6, a7, ()), a8, a9, (a10, ()), ()) a12).bind fun val => some ((val.1, ()), val.2, ())).bind fun val => ((Js a11 val.1.1).bind fun val => some ((val.1, ()), val.2, ())).bind fun val_1 => some (val_1.1, val.2.1, val_1.2)
theorem d7 (a0 : Int) (a1 : Int) (a2 : Int) (a3 : Int) (a4 : Int) (a5 : Int) (a6 : Int) (a7 : Int) (a8 : Int) (a9 : Int) (a10 : List Pr2) (a11 : List Opn) (a12 : Int) r (h : Gs (a0, (a1, a2, a3, (a4, a5, a6, a7, ()), a8, a9, (a10, ()), ()), a11, ()) a12 = some r) : Kn a0 a1 a2 a3 a4 a5 a6 a7 a8 a9 a10 a11 a12 = some ((r.1, ()), (r.2.1, r.2.2, ())) := by
 unfold Gs at h
 obtain ⟨⟨k0, x0⟩, e0, h⟩ := Option.bind_eq_some_iff.1 h
 have e0 : Hs Af a10 a12 = some (k0, x0) := e0
 obtain ⟨⟨k1, x1⟩, e1, h⟩ := Option.bind_eq_some_iff.1 h
 have e1 : Hs B0 a11 k0 = some (k1, x1) := e1
 cases h
 unfold Kn
 have c0 : Cw (a1, a2, a3, (a4, a5, a6, a7, ()), a8, a9, (a10, ()), ()) a12 = (some (k0, x0) : Option (Int × (List Pr2))) := by
  unfold Cw
  show (Hs Af a10 a12).bind _ = _
  rw [e0]
  rfl
 rw [c0]
 simp only [Option.bind_some]
 have c1 : Js a11 k0 = (some (k1, x1) : Option (Int × (List Opn))) := e1
 rw [c1]
 simp only [Option.bind_some]
 try rfl
theorem d8 : Bs Tryz.prog 26 sd_laws_markDone :=
 Av (pat := Ck) [] F5 (Ax (l := [(24, sd_laws_markStore), (100, sd_laws_markOpS)]) ⟨N7, Aac, trivial⟩) trivial Tryz.func26 (de := fun x => Kn x.1 x.2.1 x.2.2.1 x.2.2.2.1 x.2.2.2.2.1 x.2.2.2.2.2.1 x.2.2.2.2.2.2.1 x.2.2.2.2.2.2.2.1 x.2.2.2.2.2.2.2.2.1 x.2.2.2.2.2.2.2.2.2.1 x.2.2.2.2.2.2.2.2.2.2.1 x.2.2.2.2.2.2.2.2.2.2.2.1 x.2.2.2.2.2.2.2.2.2.2.2.2.1) (fun x r h => Ay (d7 x.1 x.2.1 x.2.2.1 x.2.2.2.1 x.2.2.2.2.1 x.2.2.2.2.2.1 x.2.2.2.2.2.2.1 x.2.2.2.2.2.2.2.1 x.2.2.2.2.2.2.2.2.1 x.2.2.2.2.2.2.2.2.2.1 x.2.2.2.2.2.2.2.2.2.2.1 x.2.2.2.2.2.2.2.2.2.2.2.1 x.2.2.2.2.2.2.2.2.2.2.2.2.1) h) fun _ => by kernel_rfl
def Hr (a : List Pr2) (k : Int) : Option Int := I4 Af a k
def Yg : Sig := ⟨[.rd (.sl Af), .rd tI], [none, none], [.rd tI], [none]⟩
noncomputable def sd_laws_heldPairS : SD := ⟨Yg, fun x => (Hr x.1 x.2.1).bind fun r => some ((r, ()), (()))⟩
noncomputable def ta_laws_heldPairS : Tb := tb [(99, sd_laws_markText)]
def pa_laws_heldPairS : Nat → Pat × (Nat → Pat) := Gw [(3, ⟨[.sl 0 0 Af], [(0, .lf (.d (.sl Af))), (1, .lf (.d tI)), (5, .lf (.d tI))], []⟩, [(2, ⟨[], [(1, .lf (.d tI))], []⟩), (1, ⟨[], [(4, .lf (.d tI))], []⟩)])]
noncomputable def co_laws_heldPairS_3 : Code := (An (Bn Tryz.f131)).getD 0 .skip
def Ci (v0 : List Pr2) (v1 : Int) (v5 : Int) : Nat := ((v0.length : Int) - v5).toNat + 1
noncomputable def Ej {R : Type}  (NX : ((List Pr2) × (Int) × (Int) × Unit) → Option R) (X2 : ((Int) × Unit) → Option R) (X1 : ((Int) × Unit) → Option R) (v0 : List Pr2) (v1 : Int) (v5 : Int) : Option R :=
 bif decide (v5 < nI v0.length) then bif decide (0 ≤ v5) then bif decide (v5 < nI v0.length) then ((Aq v1).bind fun val => some ((val, ()), ())).bind fun val => bif !ByteArray.toList (v0.getD v5.toNat (ByteArray.mk #[], ByteArray.mk #[], ())).1 == ByteArray.toList val.1.1 then X1 (-1, ()) else bif decide (0 ≤ v5) then bif decide (v5 < nI v0.length) then ((Aq (IntKind.i64.wrap (v1 + 1))).bind fun val => some ((val, ()), ())).bind fun val => bif !ByteArray.toList (v0.getD v5.toNat (ByteArray.mk #[], ByteArray.mk #[], ())).2.1 == ByteArray.toList val.1.1 then X1 (-1, ()) else NX (v0, IntKind.i64.wrap (IntKind.i64.wrap (v1 + 1) + 1), IntKind.i64.wrap (v5 + 1), ()) else none else none else none else none else X2 (v1, ())
noncomputable def Ar : Nat → (List Pr2) → (Int) → (Int) →  Option (((Int) × Unit) ⊕ ((Int) × Unit))
 | 0, _, _, _ => none
 | m + 1, v0, v1, v5 => Ej  (fun d => Ar m d.1 d.2.1 d.2.2.1) (fun d => some (.inl (d))) (fun d => some (.inr (d))) v0 v1 v5
noncomputable def Jt (a0 : List Pr2) (a1 : Int) : Option ((((Int) × Unit) × (Unit))) :=
 ((fun d => Ar (Ci d.1 d.2.1 d.2.2.1) d.1 d.2.1 d.2.2.1) (a0, a1, 0, ())).bind fun val => Gz (fun val => some (val, ())) (fun val => some (val, ())) val
theorem Yh (a0 : List Pr2) (a1 : Int) r (h : Hr a0 a1 = some r) : Jt a0 a1 = some ((r, ()), (())) := by
 obtain ⟨g0, g1, hl0, rfl⟩ := Ach (t := Af) h
 have hl : a0.length ≤ 1125899906842624 := hl0
 have hEE : (fun k : Int => (show Pr2 from (mkE Af k).1)) = (fun k : Int => (Hu (k), Hu (k + 1), ())) := funext fun k => by
  show (Hu (k), Hu (k + 1), ()) = (Hu (k), Hu (k + 1), ())
  try simp only [Int.add_assoc, Int.add_zero]
  try rfl
 show _ = some ((if j5 (α := Pr2) (fun x y : Pr2 => J2 Af x y) a0 (gL (fun k : Int => (show Pr2 from (mkE Af k).1)) 2 a0.length a1) = true then a1 + (a0.length : Int) * 2 else -1, ()), ())
 rw [hEE]
 unfold Jt
 have hL := Ze (xs := a0) ((ByteArray.mk #[]), (ByteArray.mk #[]), ()) (fun x y : Pr2 => J2 Af x y) (fun k : Int => (Hu (k), Hu (k + 1), ())) 2 (K := 36028797018963000) (g := fun m k i => Ar m a0 k i) (ok := fun k => .inl (k, ())) (bad := .inr (-1, ())) (fun m i k hi h1 hK => by
  show Ar (m + 1) a0 k i = bif (fun x y : Pr2 => J2 Af x y) (List.getD (α := Pr2) a0 i ((ByteArray.mk #[]), (ByteArray.mk #[]), ())) ((fun k : Int => (Hu (k), Hu (k + 1), ())) k) then Ar m a0 (k + 2) ((i + 1 : Nat) : Int) else _
  have hK1 : k + 2 ≤ 36028797018963000 := by
   have : (1 : Int) ≤ (a0.length - i : Nat) := by omega
   omega
  have hE : (fun x y : Pr2 => J2 Af x y) (List.getD (α := Pr2) a0 i ((ByteArray.mk #[]), (ByteArray.mk #[]), ())) ((fun k : Int => (Hu (k), Hu (k + 1), ())) k) = (Zc (List.getD (α := Pr2) a0 i ((ByteArray.mk #[]), (ByteArray.mk #[]), ())).1 (Hu (k + 0)) && (Zc (List.getD (α := Pr2) a0 i ((ByteArray.mk #[]), (ByteArray.mk #[]), ())).2.1 (Hu (k + 1)) && true)) := by
   try simp only [Int.add_zero]
   try rfl
  rw [hE, show Ar (m + 1) a0 k i = Ar (m + 1) a0 (k + 0) i from by rw [Int.add_zero]]
  have k0 : k = k + 0 := (Int.add_zero k).symm
  have t0 : Aq (k + 0) = some (Hu (k + 0)) := if_pos (by omega)
  have t1 : Aq (k + 1) = some (Hu (k + 1)) := if_pos (by omega)
  have w0 : IntKind.i64.wrap (k + 0 + 1) = k + 1 := by rw [Ae (by omega) (by omega)]; omega
  have w1 : IntKind.i64.wrap (k + 1 + 1) = k + 2 := by rw [Ae (by omega) (by omega)]; omega
  have v0 : (!(ByteArray.toList (List.getD (α := Pr2) a0 i ((ByteArray.mk #[]), (ByteArray.mk #[]), ())).1 == ByteArray.toList (Hu (k + 0)))) = !Zc (List.getD (α := Pr2) a0 i ((ByteArray.mk #[]), (ByteArray.mk #[]), ())).1 (Hu (k + 0)) := rfl
  have v1 : (!(ByteArray.toList (List.getD (α := Pr2) a0 i ((ByteArray.mk #[]), (ByteArray.mk #[]), ())).2.1 == ByteArray.toList (Hu (k + 1)))) = !Zc (List.getD (α := Pr2) a0 i ((ByteArray.mk #[]), (ByteArray.mk #[]), ())).2.1 (Hu (k + 1)) := rfl
  simp only [Ar, Ej]
  simp only [t0, t1,  Option.bind_some, w0, w1,  Pw hi, Gk, wI (show i < 4611686018427387904 by omega), cond_true, Int.toNat_natCast, v0, v1]
  generalize Zc (List.getD (α := Pr2) a0 i ((ByteArray.mk #[]), (ByteArray.mk #[]), ())).1 (Hu (k + 0)) = p0
  generalize Zc (List.getD (α := Pr2) a0 i ((ByteArray.mk #[]), (ByteArray.mk #[]), ())).2.1 (Hu (k + 1)) = p1
  cases p0 <;> cases p1 <;> rfl) (fun m k => by
  show Ar (m + 1) a0 k a0.length = _
  simp only [Ar, Ej]
  rw [I6]
  rfl) (Ci a0 a1 0) 0 a1 (by omega) (by simp [Ci]) g0 (by omega)
 have hL' : Ar (Ci a0 a1 0) a0 a1 0 = _ := hL
 show (Ar (Ci a0 a1 0) a0 a1 0).bind _ = some ((if j5 (α := Pr2) (fun x y : Pr2 => J2 Af x y) a0 (gL (fun k : Int => (Hu (k), Hu (k + 1), ())) 2 a0.length a1) = true then a1 + (a0.length : Int) * 2 else -1, ()), ())
 rw [hL', List.drop_zero]
 cases j5 (α := Pr2) (fun x y : Pr2 => J2 Af x y) a0 (gL (fun k : Int => (Hu (k), Hu (k + 1), ())) 2 a0.length a1) <;> rfl
noncomputable def Lx {R : Type} (k : Kt R) := (Gz (Ln (pa_laws_heldPairS 3) (.exit 0) 2 k) (Ln (pa_laws_heldPairS 3) .ret 1 k))
noncomputable def Pt {R : Type} : Lt R pa_laws_heldPairS := (Gb (pat := pa_laws_heldPairS) 3 (fun d k => (Ar (Ci d.1 d.2.1 d.2.2.1) d.1 d.2.1 d.2.2.1).bind (Lx k)) F5)
theorem N9 : At Tryz.prog ta_laws_heldPairS := Ax ⟨F2, trivial⟩
theorem T8 {R : Type} : Ba Tryz.prog R 33 0 pa_laws_heldPairS Pt co_laws_heldPairS_3 :=
 Dd (cfg := ⟨ta_laws_heldPairS, 0, 33, pa_laws_heldPairS⟩) 3 [] (fun NX X d => Ej  NX (fun e => X (.inl (e))) (fun e => X (.inr (e))) d.1 d.2.1 d.2.2.1) (fun m d => Ar m d.1 d.2.1 d.2.2.1) (fun d => Ci d.1 d.2.1 d.2.2.1) Lx N9 trivial (fun f NX d => by unfold Ej; simp only [Am, Az, Ai, Option.bind_assoc, Option.bind_none, Option.bind_some]) (fun _ _ _ => by kernel_rfl)
theorem Yi : Bs Tryz.prog 131 sd_laws_heldPairS :=
 Av (pat := pa_laws_heldPairS) [co_laws_heldPairS_3] Pt N9 ⟨T8, trivial⟩ Tryz.func131 (de := fun x => Jt x.1 x.2.1) (fun x r h => Ay (Yh x.1 x.2.1) h) fun _ => by kernel_rfl
def F3 (a : Stt) (k : Int) : Option Int := (I4 Af a.1 k).bind fun r0 =>  some (if r0 < 0 then -1 else r0)
def Yj : Sig := ⟨[.rd Gi, .rd tI], [some 1, none], [.rd tI], [none]⟩
noncomputable def sd_laws_heldState : SD := ⟨Yj, fun x => (F3 x.1 x.2.1).bind fun r => some ((r, ()), (()))⟩
noncomputable def Ju (a0 : Stt) (a1 : Int) : Option ((((Int) × Unit) × (Unit))) :=
 ((Hr a0.1 a1).bind fun val => some ((val, ()), ())).bind fun val => bif decide (val.1.1 < 0) then some ((-1, ()), ()) else some val
theorem Yk (a0 : Stt) (a1 : Int) r (h : F3 a0 a1 = some r) : Ju a0 a1 = some ((r, ()), (())) := by
 unfold F3 at h
 unfold Ju
 obtain ⟨r0, e0, h⟩ := Option.bind_eq_some_iff.1 h
 have e0 : I4 Af a0.1 a1 = some r0 := e0
 simp only [Hr]
 simp only [e0, Option.bind_some]
 by_cases q0 : r0 < 0
 ·simp only [if_pos q0] at h; cases h; simp only [if_pos q0, decide_eq_true q0, cond_true, show decide ((-1 : Int) < 0) = true from rfl]
 ·simp only [if_neg q0] at h; cases h; simp only [if_neg q0, decide_eq_false q0, cond_false]
theorem Yl : Bs Tryz.prog 44 sd_laws_heldState :=
 Av (pat := Ck) [] F5 (Ax (l := [(131, sd_laws_heldPairS)]) ⟨Yi, trivial⟩) trivial Tryz.func44 (de := fun x => Ju x.1 x.2.1) (fun x r h => Ay (Yk x.1 x.2.1) h) fun _ => by kernel_rfl
def F4 (a : Sto) (k : Int) : Option Int := (I4 Af a.2.2.2.2.2.2.1.1 k).bind fun r0 =>  some (if r0 < 0 then -1 else r0)
def Ym : Sig := ⟨[.rd Jz, .rd tI], [some 10, none], [.rd tI], [none]⟩
noncomputable def sd_laws_heldStore : SD := ⟨Ym, fun x => (F4 x.1 x.2.1).bind fun r => some ((r, ()), (()))⟩
noncomputable def Jv (a0 : Sto) (a1 : Int) : Option ((((Int) × Unit) × (Unit))) :=
 ((F3 a0.2.2.2.2.2.2.1 a1).bind fun val => some ((val, ()), ())).bind fun val => bif decide (val.1.1 < 0) then some ((-1, ()), ()) else some val
theorem Yn (a0 : Sto) (a1 : Int) r (h : F4 a0 a1 = some r) : Jv a0 a1 = some ((r, ()), (())) := by
 unfold F4 at h
 unfold Jv
 obtain ⟨r0, e0, h⟩ := Option.bind_eq_some_iff.1 h
 have e0 : I4 Af a0.2.2.2.2.2.2.1.1 a1 = some r0 := e0
 simp only [F3]
 simp only [e0, Option.bind_some]
 by_cases q0 : r0 < 0
 ·simp only [if_pos q0] at h; cases h; simp only [if_pos q0, decide_eq_true q0, cond_true, show decide ((-1 : Int) < 0) = true from rfl]
 ·simp only [if_neg q0] at h; cases h; simp only [if_neg q0, decide_eq_false q0, cond_false]
theorem Yo : Bs Tryz.prog 101 sd_laws_heldStore :=
 Av (pat := Ck) [] F5 (Ax (l := [(44, sd_laws_heldState)]) ⟨Yl, trivial⟩) trivial Tryz.func101 (de := fun x => Jv x.1 x.2.1) (fun x r h => Ay (Yn x.1 x.2.1) h) fun _ => by kernel_rfl
def Jw (a : List Opn) (k : Int) : Option Int := I4 B0 a k
def Aad : Sig := ⟨[.rd (.sl B0), .rd tI], [none, none], [.rd tI], [none]⟩
noncomputable def sd_laws_heldOpS : SD := ⟨Aad, fun x => (Jw x.1 x.2.1).bind fun r => some ((r, ()), (()))⟩
noncomputable def ta_laws_heldOpS : Tb := tb [(99, sd_laws_markText)]
def pa_laws_heldOpS : Nat → Pat × (Nat → Pat) := Gw [(3, ⟨[.sl 0 0 B0], [(0, .lf (.d (.sl B0))), (1, .lf (.d tI)), (5, .lf (.d tI))], []⟩, [(2, ⟨[], [(1, .lf (.d tI))], []⟩), (1, ⟨[], [(4, .lf (.d tI))], []⟩)])]
noncomputable def co_laws_heldOpS_3 : Code := (An (Bn Tryz.f102)).getD 0 .skip
def Da (v0 : List Opn) (v1 : Int) (v5 : Int) : Nat := ((v0.length : Int) - v5).toNat + 1
noncomputable def Fo {R : Type}  (NX : ((List Opn) × (Int) × (Int) × Unit) → Option R) (X2 : ((Int) × Unit) → Option R) (X1 : ((Int) × Unit) → Option R) (v0 : List Opn) (v1 : Int) (v5 : Int) : Option R :=
 bif decide (v5 < nI v0.length) then bif decide (0 ≤ v5) then bif decide (v5 < nI v0.length) then bif !(v0.getD v5.toNat (false, 0, ByteArray.mk #[], ())).1 == (v1.tmod 3 == 0) then X1 (-1, ()) else bif decide (0 ≤ v5) then bif decide (v5 < nI v0.length) then bif (v0.getD v5.toNat (false, 0, ByteArray.mk #[], ())).2.1 != IntKind.i64.wrap (v1 + 1) then X1 (-1, ()) else bif decide (0 ≤ v5) then bif decide (v5 < nI v0.length) then ((Aq (IntKind.i64.wrap (IntKind.i64.wrap (v1 + 1) + 1))).bind fun val => some ((val, ()), ())).bind fun val => bif !ByteArray.toList (v0.getD v5.toNat (false, 0, ByteArray.mk #[], ())).2.2.1 == ByteArray.toList val.1.1 then X1 (-1, ()) else NX (v0, IntKind.i64.wrap (IntKind.i64.wrap (IntKind.i64.wrap (v1 + 1) + 1) + 1), IntKind.i64.wrap (v5 + 1), ()) else none else none else none else none else none else none else X2 (v1, ())
noncomputable def A1 : Nat → (List Opn) → (Int) → (Int) →  Option (((Int) × Unit) ⊕ ((Int) × Unit))
 | 0, _, _, _ => none
 | m + 1, v0, v1, v5 => Fo  (fun d => A1 m d.1 d.2.1 d.2.2.1) (fun d => some (.inl (d))) (fun d => some (.inr (d))) v0 v1 v5
noncomputable def Lm (a0 : List Opn) (a1 : Int) : Option ((((Int) × Unit) × (Unit))) :=
 ((fun d => A1 (Da d.1 d.2.1 d.2.2.1) d.1 d.2.1 d.2.2.1) (a0, a1, 0, ())).bind fun val => Gz (fun val => some (val, ())) (fun val => some (val, ())) val
theorem Aae (a0 : List Opn) (a1 : Int) r (h : Jw a0 a1 = some r) : Lm a0 a1 = some ((r, ()), (())) := by
 obtain ⟨g0, g1, hl0, rfl⟩ := Ach (t := B0) h
 have hl : a0.length ≤ 1125899906842624 := hl0
 have hEE : (fun k : Int => (show Opn from (mkE B0 k).1)) = (fun k : Int => (decide ((k) % 3 = 0), k + 1, Hu (k + 2), ())) := funext fun k => by
  show (decide ((k) % 3 = 0), k + 1, Hu (k + 1 + 1), ()) = (decide ((k) % 3 = 0), k + 1, Hu (k + 2), ())
  try simp only [Int.add_assoc, Int.add_zero]
  try rfl
 show _ = some ((if j5 (α := Opn) (fun x y : Opn => J2 B0 x y) a0 (gL (fun k : Int => (show Opn from (mkE B0 k).1)) 3 a0.length a1) = true then a1 + (a0.length : Int) * 3 else -1, ()), ())
 rw [hEE]
 unfold Lm
 have hL := Ze (xs := a0) (false, 0, (ByteArray.mk #[]), ()) (fun x y : Opn => J2 B0 x y) (fun k : Int => (decide ((k) % 3 = 0), k + 1, Hu (k + 2), ())) 3 (K := 36028797018963000) (g := fun m k i => A1 m a0 k i) (ok := fun k => .inl (k, ())) (bad := .inr (-1, ())) (fun m i k hi h1 hK => by
  show A1 (m + 1) a0 k i = bif (fun x y : Opn => J2 B0 x y) (List.getD (α := Opn) a0 i (false, 0, (ByteArray.mk #[]), ())) ((fun k : Int => (decide ((k) % 3 = 0), k + 1, Hu (k + 2), ())) k) then A1 m a0 (k + 3) ((i + 1 : Nat) : Int) else _
  have hK1 : k + 3 ≤ 36028797018963000 := by
   have : (1 : Int) ≤ (a0.length - i : Nat) := by omega
   omega
  have hE : (fun x y : Opn => J2 B0 x y) (List.getD (α := Opn) a0 i (false, 0, (ByteArray.mk #[]), ())) ((fun k : Int => (decide ((k) % 3 = 0), k + 1, Hu (k + 2), ())) k) = (eqO (List.getD (α := Opn) a0 i (false, 0, (ByteArray.mk #[]), ())).1 (decide ((k + 0) % 3 = 0)) && (Pu (List.getD (α := Opn) a0 i (false, 0, (ByteArray.mk #[]), ())).2.1 (k + 1) && (Zc (List.getD (α := Opn) a0 i (false, 0, (ByteArray.mk #[]), ())).2.2.1 (Hu (k + 2)) && true))) := by
   try simp only [Int.add_zero]
   try rfl
  rw [hE, show A1 (m + 1) a0 k i = A1 (m + 1) a0 (k + 0) i from by rw [Int.add_zero]]
  have k0 : k = k + 0 := (Int.add_zero k).symm
  have t2 : Aq (k + 2) = some (Hu (k + 2)) := if_pos (by omega)
  have w0 : IntKind.i64.wrap (k + 0 + 1) = k + 1 := by rw [Ae (by omega) (by omega)]; omega
  have w1 : IntKind.i64.wrap (k + 1 + 1) = k + 2 := by rw [Ae (by omega) (by omega)]; omega
  have w2 : IntKind.i64.wrap (k + 2 + 1) = k + 3 := by rw [Ae (by omega) (by omega)]; omega
  have u0 : (Int.tmod (k + 0) 3 == 0) = decide ((k + 0) % 3 = 0) := Ap2 (by omega)
  have v0 : (!((List.getD (α := Opn) a0 i (false, 0, (ByteArray.mk #[]), ())).1 == decide ((k + 0) % 3 = 0))) = !eqO (List.getD (α := Opn) a0 i (false, 0, (ByteArray.mk #[]), ())).1 (decide ((k + 0) % 3 = 0)) := rfl
  have v1 : ((List.getD (α := Opn) a0 i (false, 0, (ByteArray.mk #[]), ())).2.1 != k + 1) = !Pu (List.getD (α := Opn) a0 i (false, 0, (ByteArray.mk #[]), ())).2.1 (k + 1) := m9 _ _
  have v2 : (!(ByteArray.toList (List.getD (α := Opn) a0 i (false, 0, (ByteArray.mk #[]), ())).2.2.1 == ByteArray.toList (Hu (k + 2)))) = !Zc (List.getD (α := Opn) a0 i (false, 0, (ByteArray.mk #[]), ())).2.2.1 (Hu (k + 2)) := rfl
  simp only [A1, Fo]
  simp only [t2,  Option.bind_some, w0, w1, w2, u0,  Pw hi, Gk, wI (show i < 4611686018427387904 by omega), cond_true, Int.toNat_natCast, v0, v1, v2]
  generalize eqO (List.getD (α := Opn) a0 i (false, 0, (ByteArray.mk #[]), ())).1 (decide ((k + 0) % 3 = 0)) = p0
  generalize Pu (List.getD (α := Opn) a0 i (false, 0, (ByteArray.mk #[]), ())).2.1 (k + 1) = p1
  generalize Zc (List.getD (α := Opn) a0 i (false, 0, (ByteArray.mk #[]), ())).2.2.1 (Hu (k + 2)) = p2
  cases p0 <;> cases p1 <;> cases p2 <;> rfl) (fun m k => by
  show A1 (m + 1) a0 k a0.length = _
  simp only [A1, Fo]
  rw [I6]
  rfl) (Da a0 a1 0) 0 a1 (by omega) (by simp [Da]) g0 (by omega)
 have hL' : A1 (Da a0 a1 0) a0 a1 0 = _ := hL
 show (A1 (Da a0 a1 0) a0 a1 0).bind _ = some ((if j5 (α := Opn) (fun x y : Opn => J2 B0 x y) a0 (gL (fun k : Int => (decide ((k) % 3 = 0), k + 1, Hu (k + 2), ())) 3 a0.length a1) = true then a1 + (a0.length : Int) * 3 else -1, ()), ())
 rw [hL', List.drop_zero]
 cases j5 (α := Opn) (fun x y : Opn => J2 B0 x y) a0 (gL (fun k : Int => (decide ((k) % 3 = 0), k + 1, Hu (k + 2), ())) 3 a0.length a1) <;> rfl
noncomputable def Oa {R : Type} (k : Kt R) := (Gz (Ln (pa_laws_heldOpS 3) (.exit 0) 2 k) (Ln (pa_laws_heldOpS 3) .ret 1 k))
noncomputable def S8 {R : Type} : Lt R pa_laws_heldOpS := (Gb (pat := pa_laws_heldOpS) 3 (fun d k => (A1 (Da d.1 d.2.1 d.2.2.1) d.1 d.2.1 d.2.2.1).bind (Oa k)) F5)
theorem Rj : At Tryz.prog ta_laws_heldOpS := Ax ⟨F2, trivial⟩
theorem Yp {R : Type} : Ba Tryz.prog R 43 0 pa_laws_heldOpS S8 co_laws_heldOpS_3 :=
 Dd (cfg := ⟨ta_laws_heldOpS, 0, 43, pa_laws_heldOpS⟩) 3 [] (fun NX X d => Fo  NX (fun e => X (.inl (e))) (fun e => X (.inr (e))) d.1 d.2.1 d.2.2.1) (fun m d => A1 m d.1 d.2.1 d.2.2.1) (fun d => Da d.1 d.2.1 d.2.2.1) Oa Rj trivial (fun f NX d => by unfold Fo; simp only [Am, Az, Ai, Option.bind_assoc, Option.bind_none, Option.bind_some]) (fun _ _ _ => by kernel_rfl)
theorem Aaf : Bs Tryz.prog 102 sd_laws_heldOpS :=
 Av (pat := pa_laws_heldOpS) [co_laws_heldOpS_3] S8 Rj ⟨Yp, trivial⟩ Tryz.func102 (de := fun x => Lm x.1 x.2.1) (fun x r h => Ay (Aae x.1 x.2.1) h) fun _ => by kernel_rfl
def Fe (a : Don) (k : Int) : Option Int := (I4 Af a.2.1.2.2.2.2.2.2.1.1 k).bind fun r0 => if r0 < 0 then some (-1) else (I4 B0 a.2.2.1 r0).bind fun r1 =>  some (if r1 < 0 then -1 else r1)
def d9 : Sig := ⟨[.rd Alr, .rd tI], [some 12, none], [.rd tI], [none]⟩
noncomputable def sd_laws_heldDone : SD := ⟨d9, fun x => (Fe x.1 x.2.1).bind fun r => some ((r, ()), (()))⟩
noncomputable def Ko (a0 : Don) (a1 : Int) : Option ((((Int) × Unit) × (Unit))) :=
 ((F4 a0.2.1 a1).bind fun val => some ((val, ()), ())).bind fun val => bif decide (val.1.1 < 0) then some ((-1, ()), ()) else ((Jw a0.2.2.1 val.1.1).bind fun val => some ((val, ()), ())).bind fun val => bif decide (val.1.1 < 0) then some ((-1, ()), ()) else some val
theorem e7 (a0 : Don) (a1 : Int) r (h : Fe a0 a1 = some r) : Ko a0 a1 = some ((r, ()), (())) := by
 unfold Fe at h
 unfold Ko
 obtain ⟨r0, e0, h⟩ := Option.bind_eq_some_iff.1 h
 have e0 : I4 Af a0.2.1.2.2.2.2.2.2.1.1 a1 = some r0 := e0
 simp only [F4, Jw]
 simp only [e0, Option.bind_some]
 by_cases q0 : r0 < 0
 ·simp only [if_pos q0] at h; cases h; simp only [if_pos q0, decide_eq_true q0, cond_true, show decide ((-1 : Int) < 0) = true from rfl]
 ·simp only [if_neg q0] at h; simp only [if_neg q0, decide_eq_false q0, cond_false]
  obtain ⟨r1, e1, h⟩ := Option.bind_eq_some_iff.1 h
  have e1 : I4 B0 a0.2.2.1 r0 = some r1 := e1
  simp only [e1, Option.bind_some]
  by_cases q1 : r1 < 0
  ·simp only [if_pos q1] at h; cases h; simp only [if_pos q1, decide_eq_true q1, cond_true, show decide ((-1 : Int) < 0) = true from rfl]
  ·simp only [if_neg q1] at h; cases h; simp only [if_neg q1, decide_eq_false q1, cond_false]
theorem e9 : Bs Tryz.prog 27 sd_laws_heldDone :=
 Av (pat := Ck) [] F5 (Ax (l := [(101, sd_laws_heldStore), (102, sd_laws_heldOpS)]) ⟨Yo, Aaf, trivial⟩) trivial Tryz.func27 (de := fun x => Ko x.1 x.2.1) (fun x r h => Ay (e7 x.1 x.2.1) h) fun _ => by kernel_rfl
def Rl : Sig := ⟨[.rd Jz, .rd (.sl A2)], [some 10, none], [.rd .bool], [none]⟩
noncomputable def E9 (a0 : Sto) (a1 : List Chg) : Option ((((Bool) × Unit) × (Unit))) :=
 ((I7 a0 1048576).bind fun val => some ((val, ()), ())).bind fun val => bif decide (val.1.1 < 0) then some ((true, ()), ()) else ((Hm a1 val.1.1).bind fun val => some ((val, ()), ())).bind fun val => bif decide (val.1.1 < 0) then some ((true, ()), ()) else ((E3 a0).bind fun val => some ((val.1, val.2.1, val.2.2.1, val.2.2.2.1.1, val.2.2.2.1.2.1, val.2.2.2.1.2.2.1, val.2.2.2.1.2.2.2.1, val.2.2.2.2.1, val.2.2.2.2.2.1, val.2.2.2.2.2.2.1), ())).bind fun val => ((Dn a1).bind fun val => some ((val, ()), ())).bind fun val_1 => ((E3 a0).bind fun val => some ((val.1, val.2.1, val.2.2.1, val.2.2.2.1.1, val.2.2.2.1.2.1, val.2.2.2.1.2.2.1, val.2.2.2.1.2.2.2.1, val.2.2.2.2.1, val.2.2.2.2.2.1, val.2.2.2.2.2.2.1), ())).bind fun val_2 => ((Dn a1).bind fun val => some ((val, ()), ())).bind fun val_3 => ((Gv (Aa (val_2.1.1, val_2.1.2.1, val_2.1.2.2.1, (val_2.1.2.2.2.1, val_2.1.2.2.2.2.1, val_2.1.2.2.2.2.2.1, val_2.1.2.2.2.2.2.2.1, ()), val_2.1.2.2.2.2.2.2.2.1, val_2.1.2.2.2.2.2.2.2.2.1, val_2.1.2.2.2.2.2.2.2.2.2, ()) val_3.1.1) (Ah (val.1.1, val.1.2.1, val.1.2.2.1, (val.1.2.2.2.1, val.1.2.2.2.2.1, val.1.2.2.2.2.2.1, val.1.2.2.2.2.2.2.1, ()), val.1.2.2.2.2.2.2.2.1, val.1.2.2.2.2.2.2.2.2.1, val.1.2.2.2.2.2.2.2.2.2, ()) val_1.1.1)).bind fun val => some ((val, ()), ())).bind fun val_4 => bif !val_4.1.1 then some ((false, ()), ()) else ((E3 a0).bind fun val => some ((val.1, val.2.1, val.2.2.1, val.2.2.2.1.1, val.2.2.2.1.2.1, val.2.2.2.1.2.2.1, val.2.2.2.1.2.2.2.1, val.2.2.2.2.1, val.2.2.2.2.2.1, val.2.2.2.2.2.2.1), ())).bind fun val_5 => ((E6 (val_2.1.1, val_2.1.2.1, val_2.1.2.2.1, (val_2.1.2.2.2.1, val_2.1.2.2.2.2.1, val_2.1.2.2.2.2.2.1, val_2.1.2.2.2.2.2.2.1, ()), val_2.1.2.2.2.2.2.2.2.1, val_2.1.2.2.2.2.2.2.2.2.1, val_2.1.2.2.2.2.2.2.2.2.2, ()) (val_5.1.1, val_5.1.2.1, val_5.1.2.2.1, (val_5.1.2.2.2.1, val_5.1.2.2.2.2.1, val_5.1.2.2.2.2.2.1, val_5.1.2.2.2.2.2.2.1, ()), val_5.1.2.2.2.2.2.2.2.1, val_5.1.2.2.2.2.2.2.2.2.1, val_5.1.2.2.2.2.2.2.2.2.2, ())).bind fun val => some ((val, ()), ())).bind fun val_6 => bif !val_6.1.1 then some ((false, ()), ()) else ((Dn a1).bind fun val => some ((val, ()), ())).bind fun val_7 => ((Hp val_3.1.1 val_7.1.1).bind fun val => some ((val, ()), ())).bind fun val_8 => bif !val_8.1.1 then some ((false, ()), ()) else ((Cw (val_2.1.1, val_2.1.2.1, val_2.1.2.2.1, (val_2.1.2.2.2.1, val_2.1.2.2.2.2.1, val_2.1.2.2.2.2.2.1, val_2.1.2.2.2.2.2.2.1, ()), val_2.1.2.2.2.2.2.2.2.1, val_2.1.2.2.2.2.2.2.2.2.1, val_2.1.2.2.2.2.2.2.2.2.2, ()) 1).bind fun val => some ((val.1, ()), val.2, ())).bind fun val_9 => ((Ge val_3.1.1 val_9.1.1).bind fun val => some ((val.1, ()), val.2, ())).bind fun val_10 => bif decide (val_10.1.1 < 0) then some ((false, ()), ()) else ((Gv (Aa (val_2.1.1, val_2.1.2.1, val_2.1.2.2.1, (val_2.1.2.2.2.1, val_2.1.2.2.2.2.1, val_2.1.2.2.2.2.2.1, val_2.1.2.2.2.2.2.2.1, ()), val_2.1.2.2.2.2.2.2.2.1, val_2.1.2.2.2.2.2.2.2.2.1, val_2.1.2.2.2.2.2.2.2.2.2, ()) val_3.1.1) (Ah (val.1.1, val.1.2.1, val.1.2.2.1, (val.1.2.2.2.1, val.1.2.2.2.2.1, val.1.2.2.2.2.2.1, val.1.2.2.2.2.2.2.1, ()), val.1.2.2.2.2.2.2.2.1, val.1.2.2.2.2.2.2.2.2.1, val.1.2.2.2.2.2.2.2.2.2, ()) val_1.1.1)).bind fun val => some ((val, ()), ())).bind fun val_11 => bif !val_11.1.1 then some ((false, ()), ()) else ((Gs (Aa (val_2.1.1, val_2.1.2.1, val_2.1.2.2.1, (val_2.1.2.2.2.1, val_2.1.2.2.2.2.1, val_2.1.2.2.2.2.2.1, val_2.1.2.2.2.2.2.2.1, ()), val_2.1.2.2.2.2.2.2.2.1, val_2.1.2.2.2.2.2.2.2.2.1, val_2.1.2.2.2.2.2.2.2.2.2, ()) val_3.1.1) 1).bind fun val => some ((val.1, ()), val.2.1, val.2.2, ())).bind fun val_12 => ((Fe ((Aa (val_2.1.1, val_2.1.2.1, val_2.1.2.2.1, (val_2.1.2.2.2.1, val_2.1.2.2.2.2.1, val_2.1.2.2.2.2.2.1, val_2.1.2.2.2.2.2.2.1, ()), val_2.1.2.2.2.2.2.2.2.1, val_2.1.2.2.2.2.2.2.2.2.1, val_2.1.2.2.2.2.2.2.2.2.2, ()) val_3.1.1).1, ((Aa (val_2.1.1, val_2.1.2.1, val_2.1.2.2.1, (val_2.1.2.2.2.1, val_2.1.2.2.2.2.1, val_2.1.2.2.2.2.2.1, val_2.1.2.2.2.2.2.2.1, ()), val_2.1.2.2.2.2.2.2.2.1, val_2.1.2.2.2.2.2.2.2.2.1, val_2.1.2.2.2.2.2.2.2.2.2, ()) val_3.1.1).2.1.1, (Aa (val_2.1.1, val_2.1.2.1, val_2.1.2.2.1, (val_2.1.2.2.2.1, val_2.1.2.2.2.2.1, val_2.1.2.2.2.2.2.1, val_2.1.2.2.2.2.2.2.1, ()), val_2.1.2.2.2.2.2.2.2.1, val_2.1.2.2.2.2.2.2.2.2.1, val_2.1.2.2.2.2.2.2.2.2.2, ()) val_3.1.1).2.1.2.1, (Aa (val_2.1.1, val_2.1.2.1, val_2.1.2.2.1, (val_2.1.2.2.2.1, val_2.1.2.2.2.2.1, val_2.1.2.2.2.2.2.1, val_2.1.2.2.2.2.2.2.1, ()), val_2.1.2.2.2.2.2.2.2.1, val_2.1.2.2.2.2.2.2.2.2.1, val_2.1.2.2.2.2.2.2.2.2.2, ()) val_3.1.1).2.1.2.2.1, (Aa (val_2.1.1, val_2.1.2.1, val_2.1.2.2.1, (val_2.1.2.2.2.1, val_2.1.2.2.2.2.1, val_2.1.2.2.2.2.2.1, val_2.1.2.2.2.2.2.2.1, ()), val_2.1.2.2.2.2.2.2.2.1, val_2.1.2.2.2.2.2.2.2.2.1, val_2.1.2.2.2.2.2.2.2.2.2, ()) val_3.1.1).2.1.2.2.2.1, (Aa (val_2.1.1, val_2.1.2.1, val_2.1.2.2.1, (val_2.1.2.2.2.1, val_2.1.2.2.2.2.1, val_2.1.2.2.2.2.2.1, val_2.1.2.2.2.2.2.2.1, ()), val_2.1.2.2.2.2.2.2.2.1, val_2.1.2.2.2.2.2.2.2.2.1, val_2.1.2.2.2.2.2.2.2.2.2, ()) val_3.1.1).2.1.2.2.2.2.1, (Aa (val_2.1.1, val_2.1.2.1, val_2.1.2.2.1, (val_2.1.2.2.2.1, val_2.1.2.2.2.2.1, val_2.1.2.2.2.2.2.1, val_2.1.2.2.2.2.2.2.1, ()), val_2.1.2.2.2.2.2.2.2.1, val_2.1.2.2.2.2.2.2.2.2.1, val_2.1.2.2.2.2.2.2.2.2.2, ()) val_3.1.1).2.1.2.2.2.2.2.1, (val_12.2.1, ()), ()), val_12.2.2) 1).bind fun val => some ((val, ()), ())).bind fun val_13 => bif decide (val_13.1.1 < 0) then some ((false, ()), ()) else bif val_13.1.1 != val_12.1.1 then some ((false, ()), ()) else ((E3 a0).bind fun val => some ((val.1, val.2.1, val.2.2.1, val.2.2.2.1.1, val.2.2.2.1.2.1, val.2.2.2.1.2.2.1, val.2.2.2.1.2.2.2.1, val.2.2.2.2.1, val.2.2.2.2.2.1, val.2.2.2.2.2.2.1), ())).bind fun val_14 => ((Dn a1).bind fun val => some ((val, ()), ())).bind fun val_15 => ((Gv (Aa (val_14.1.1, val_14.1.2.1, val_14.1.2.2.1, (val_14.1.2.2.2.1, val_14.1.2.2.2.2.1, val_14.1.2.2.2.2.2.1, val_14.1.2.2.2.2.2.2.1, ()), val_14.1.2.2.2.2.2.2.2.1, val_14.1.2.2.2.2.2.2.2.2.1, val_14.1.2.2.2.2.2.2.2.2.2, ()) val_15.1.1) (Ah (val.1.1, val.1.2.1, val.1.2.2.1, (val.1.2.2.2.1, val.1.2.2.2.2.1, val.1.2.2.2.2.2.1, val.1.2.2.2.2.2.2.1, ()), val.1.2.2.2.2.2.2.2.1, val.1.2.2.2.2.2.2.2.2.1, val.1.2.2.2.2.2.2.2.2.2, ()) val_1.1.1)).bind fun val => some ((val, ()), ())).bind fun val => bif !val.1.1 then some ((false, ()), ()) else ((Fe ((Aa (val_2.1.1, val_2.1.2.1, val_2.1.2.2.1, (val_2.1.2.2.2.1, val_2.1.2.2.2.2.1, val_2.1.2.2.2.2.2.1, val_2.1.2.2.2.2.2.2.1, ()), val_2.1.2.2.2.2.2.2.2.1, val_2.1.2.2.2.2.2.2.2.2.1, val_2.1.2.2.2.2.2.2.2.2.2, ()) val_3.1.1).1, ((Aa (val_2.1.1, val_2.1.2.1, val_2.1.2.2.1, (val_2.1.2.2.2.1, val_2.1.2.2.2.2.1, val_2.1.2.2.2.2.2.1, val_2.1.2.2.2.2.2.2.1, ()), val_2.1.2.2.2.2.2.2.2.1, val_2.1.2.2.2.2.2.2.2.2.1, val_2.1.2.2.2.2.2.2.2.2.2, ()) val_3.1.1).2.1.1, (Aa (val_2.1.1, val_2.1.2.1, val_2.1.2.2.1, (val_2.1.2.2.2.1, val_2.1.2.2.2.2.1, val_2.1.2.2.2.2.2.1, val_2.1.2.2.2.2.2.2.1, ()), val_2.1.2.2.2.2.2.2.2.1, val_2.1.2.2.2.2.2.2.2.2.1, val_2.1.2.2.2.2.2.2.2.2.2, ()) val_3.1.1).2.1.2.1, (Aa (val_2.1.1, val_2.1.2.1, val_2.1.2.2.1, (val_2.1.2.2.2.1, val_2.1.2.2.2.2.1, val_2.1.2.2.2.2.2.1, val_2.1.2.2.2.2.2.2.1, ()), val_2.1.2.2.2.2.2.2.2.1, val_2.1.2.2.2.2.2.2.2.2.1, val_2.1.2.2.2.2.2.2.2.2.2, ()) val_3.1.1).2.1.2.2.1, (Aa (val_2.1.1, val_2.1.2.1, val_2.1.2.2.1, (val_2.1.2.2.2.1, val_2.1.2.2.2.2.1, val_2.1.2.2.2.2.2.1, val_2.1.2.2.2.2.2.2.1, ()), val_2.1.2.2.2.2.2.2.2.1, val_2.1.2.2.2.2.2.2.2.2.1, val_2.1.2.2.2.2.2.2.2.2.2, ()) val_3.1.1).2.1.2.2.2.1, (Aa (val_2.1.1, val_2.1.2.1, val_2.1.2.2.1, (val_2.1.2.2.2.1, val_2.1.2.2.2.2.1, val_2.1.2.2.2.2.2.1, val_2.1.2.2.2.2.2.2.1, ()), val_2.1.2.2.2.2.2.2.2.1, val_2.1.2.2.2.2.2.2.2.2.1, val_2.1.2.2.2.2.2.2.2.2.2, ()) val_3.1.1).2.1.2.2.2.2.1, (Aa (val_2.1.1, val_2.1.2.1, val_2.1.2.2.1, (val_2.1.2.2.2.1, val_2.1.2.2.2.2.1, val_2.1.2.2.2.2.2.1, val_2.1.2.2.2.2.2.2.1, ()), val_2.1.2.2.2.2.2.2.2.1, val_2.1.2.2.2.2.2.2.2.2.1, val_2.1.2.2.2.2.2.2.2.2.2, ()) val_3.1.1).2.1.2.2.2.2.2.1, (val_12.2.1, ()), ()), val_12.2.2) 1).bind fun val => some ((val, ()), ())).bind fun val => bif decide (val.1.1 < 0) then some ((false, ()), ()) else bif val.1.1 != val_12.1.1 then some ((false, ()), ()) else some ((true, ()), ())
noncomputable def sd_laws_FnExactCommit : SD := ⟨Rl, fun x => E9 x.1 x.2.1⟩
theorem Yq (a0 : Sto)  (a1 : List Chg) (h0 : Ud Jz a0) (h1 : Ud (.sl A2) a1) : E9 a0 a1 = some ((true, ()), ()) := by
 have hf0 := W1 h0
 have hf1 := W1 h1
 unfold E9
 rcases Ajr (l0 := 1048576) hf0 (by first | decide | assumption) (by first | decide | assumption) (m := I7 (a0.1, a0.2.1, a0.2.2.1, (a0.2.2.2.1.1, a0.2.2.2.1.2.1, a0.2.2.2.1.2.2.1, a0.2.2.2.1.2.2.2.1, ()), a0.2.2.2.2.1, a0.2.2.2.2.2.1, (a0.2.2.2.2.2.2.1.1, ()), ()) 1048576) rfl with e0 | ⟨l0, e0, g0, k0, s0, q0⟩
 ·simp only [e0, Option.bind_some, Ar8, cond_true, cond_false]
 ·skip
  rcases Ajr (l0 := l0) hf1 (by first | decide | assumption) (by first | decide | assumption) (m := Hm a1 l0) rfl with e1 | ⟨l1, e1, g1, k1, s1, q1⟩
  ·simp only [e0, q0, e1, Option.bind_some, Ar8, cond_true, cond_false]
  ·skip
   have t0 : E3 (a0.1, a0.2.1, a0.2.2.1, (a0.2.2.2.1.1, a0.2.2.2.1.2.1, a0.2.2.2.1.2.2.1, a0.2.2.2.1.2.2.2.1, ()), a0.2.2.2.2.1, a0.2.2.2.2.2.1, (a0.2.2.2.2.2.2.1.1, ()), ()) = some (a0.1, a0.2.1, a0.2.2.1, (a0.2.2.2.1.1, a0.2.2.2.1.2.1, a0.2.2.2.1.2.2.1, a0.2.2.2.1.2.2.2.1, ()), a0.2.2.2.2.1, a0.2.2.2.2.2.1, (a0.2.2.2.2.2.2.1.1, ()), ()) := Ahu (t := Jz) (x := a0) s0
   have u0 : E6 (a0.1, a0.2.1, a0.2.2.1, (a0.2.2.2.1.1, a0.2.2.2.1.2.1, a0.2.2.2.1.2.2.1, a0.2.2.2.1.2.2.2.1, ()), a0.2.2.2.2.1, a0.2.2.2.2.2.1, (a0.2.2.2.2.2.2.1.1, ()), ()) (a0.1, a0.2.1, a0.2.2.1, (a0.2.2.2.1.1, a0.2.2.2.1.2.1, a0.2.2.2.1.2.2.1, a0.2.2.2.1.2.2.2.1, ()), a0.2.2.2.2.1, a0.2.2.2.2.2.1, (a0.2.2.2.2.2.2.1.1, ()), ()) = some true := Aci (t := Jz) (x := a0) hf0
   have t1 : Dn a1 = some a1 := Ahu (t := (.sl A2)) (x := a1) s1
   have u1 : Hp a1 a1 = some true := Aci (t := (.sl A2)) (x := a1) hf1
   have gw : Ah (a0.1, a0.2.1, a0.2.2.1, (a0.2.2.2.1.1, a0.2.2.2.1.2.1, a0.2.2.2.1.2.2.1, a0.2.2.2.1.2.2.2.1, ()), a0.2.2.2.2.1, a0.2.2.2.2.2.1, (a0.2.2.2.2.2.2.1.1, ()), ()) a1 = Aa (a0.1, a0.2.1, a0.2.2.1, (a0.2.2.2.1.1, a0.2.2.2.1.2.1, a0.2.2.2.1.2.2.1, a0.2.2.2.1.2.2.2.1, ()), a0.2.2.2.2.1, a0.2.2.2.2.2.1, (a0.2.2.2.2.2.2.1.1, ()), ()) a1 := rfl
   have gg0 : G4 Alr (Aa (a0.1, a0.2.1, a0.2.2.1, (a0.2.2.2.1.1, a0.2.2.2.1.2.1, a0.2.2.2.1.2.2.1, a0.2.2.2.1.2.2.2.1, ()), a0.2.2.2.2.1, a0.2.2.2.2.2.1, (a0.2.2.2.2.2.2.1.1, ()), ()) a1) = true := Aka _ _
   simp only [e0, q0, e1, q1, t0, u0, t1, u1, Option.bind_some, cond_false, gw]
   generalize Aa (a0.1, a0.2.1, a0.2.2.1, (a0.2.2.2.1.1, a0.2.2.2.1.2.1, a0.2.2.2.1.2.2.1, a0.2.2.2.1.2.2.2.1, ()), a0.2.2.2.2.1, a0.2.2.2.2.2.1, (a0.2.2.2.2.2.2.1.1, ()), ()) a1 = g at *
   have v0 : Gv (g.1, (g.2.1.1, g.2.1.2.1, g.2.1.2.2.1, (g.2.1.2.2.2.1.1, g.2.1.2.2.2.1.2.1, g.2.1.2.2.2.1.2.2.1, g.2.1.2.2.2.1.2.2.2.1, ()), g.2.1.2.2.2.2.1, g.2.1.2.2.2.2.2.1, (g.2.1.2.2.2.2.2.2.1.1, ()), ()), g.2.2.1, ()) (g.1, (g.2.1.1, g.2.1.2.1, g.2.1.2.2.1, (g.2.1.2.2.2.1.1, g.2.1.2.2.2.1.2.1, g.2.1.2.2.2.1.2.2.1, g.2.1.2.2.2.1.2.2.2.1, ()), g.2.1.2.2.2.2.1, g.2.1.2.2.2.2.2.1, (g.2.1.2.2.2.2.2.2.1.1, ()), ()), g.2.2.1, ()) = some true := Aci (t := Alr) (x := g) (Tn gg0)
   have Lx0 := s0
   simp only [Dl, G4, Bool.and_eq_true, decide_eq_true_eq, and_true, true_and] at Lx0
   obtain ⟨kx0_0, yx0_0, mx0_0, bx0_0, cx0_0, dx0_0⟩ : ∃ (k2 : Int) (ys : List Pr2), Hs Af a0.2.2.2.2.2.2.1.1 1 = (some (k2, ys) : Option (Int × List Pr2)) ∧ 1 ≤ k2 ∧ k2 ≤ 1 + 1073741824 * ((2 : Nat) : Int) ∧ I4 Af ys 1 = some k2 := Ana (t := Af) (xs := a0.2.2.2.2.2.2.1.1) (k := 1) 2 rfl (by omega) (by omega) (by omega)
   have mkx0 : Cw (a0.1, a0.2.1, a0.2.2.1, (a0.2.2.2.1.1, a0.2.2.2.1.2.1, a0.2.2.2.1.2.2.1, a0.2.2.2.1.2.2.2.1, ()), a0.2.2.2.2.1, a0.2.2.2.2.2.1, (a0.2.2.2.2.2.2.1.1, ()), ()) 1 = some (kx0_0, yx0_0) := Tu mx0_0 (rfl)
   have Lx1 := s1
   simp only [Dl, G4, Bool.and_eq_true, decide_eq_true_eq, and_true, true_and] at Lx1
   obtain ⟨kx1_0, yx1_0, mx1_0, bx1_0, cx1_0, dx1_0⟩ : ∃ (k2 : Int) (ys : List Chg), Hs A2 a1 kx0_0 = (some (k2, ys) : Option (Int × List Chg)) ∧ kx0_0 ≤ k2 ∧ k2 ≤ kx0_0 + 1073741824 * ((3 : Nat) : Int) ∧ I4 A2 ys kx0_0 = some k2 := Ana (t := A2) (xs := a1) (k := kx0_0) 3 rfl (by omega) (by omega) (by omega)
   have mkx1 : Ge a1 kx0_0 = some (kx1_0, yx1_0) := mx1_0
   have nkx : decide (kx1_0 < 0) = false := decide_eq_false (by omega)
   have Lz0 := gg0
   simp only [Dl, G4, Bool.and_eq_true, decide_eq_true_eq, and_true, true_and] at Lz0
   obtain ⟨kz0_0, yz0_0, mz0_0, bz0_0, cz0_0, dz0_0⟩ : ∃ (k2 : Int) (ys : List Pr2), Hs Af g.2.1.2.2.2.2.2.2.1.1 1 = (some (k2, ys) : Option (Int × List Pr2)) ∧ 1 ≤ k2 ∧ k2 ≤ 1 + 1073741824 * ((2 : Nat) : Int) ∧ I4 Af ys 1 = some k2 := Ana (t := Af) (xs := g.2.1.2.2.2.2.2.2.1.1) (k := 1) 2 rfl (by omega) (by omega) (by omega)
   obtain ⟨kz0_1, yz0_1, mz0_1, bz0_1, cz0_1, dz0_1⟩ : ∃ (k2 : Int) (ys : List Opn), Hs B0 g.2.2.1 kz0_0 = (some (k2, ys) : Option (Int × List Opn)) ∧ kz0_0 ≤ k2 ∧ k2 ≤ kz0_0 + 1073741824 * ((3 : Nat) : Int) ∧ I4 B0 ys kz0_0 = some k2 := Ana (t := B0) (xs := g.2.2.1) (k := kz0_0) 3 rfl (by omega) (by omega) (by omega)
   have mkz0 : Gs (g.1, (g.2.1.1, g.2.1.2.1, g.2.1.2.2.1, (g.2.1.2.2.2.1.1, g.2.1.2.2.2.1.2.1, g.2.1.2.2.2.1.2.2.1, g.2.1.2.2.2.1.2.2.2.1, ()), g.2.1.2.2.2.2.1, g.2.1.2.2.2.2.2.1, (g.2.1.2.2.2.2.2.2.1.1, ()), ()), g.2.2.1, ()) 1 = some (kz0_1, yz0_0, yz0_1) := Tu mz0_0 (Tu mz0_1 (rfl))
   have nnz0_0 : ¬ kz0_0 < 0 := by omega
   have nnz0_1 : ¬ kz0_1 < 0 := by omega
   have hdz0 : Fe (g.1, (g.2.1.1, g.2.1.2.1, g.2.1.2.2.1, (g.2.1.2.2.2.1.1, g.2.1.2.2.2.1.2.1, g.2.1.2.2.2.1.2.2.1, g.2.1.2.2.2.1.2.2.2.1, ()), g.2.1.2.2.2.2.1, g.2.1.2.2.2.2.2.1, (yz0_0, ()), ()), yz0_1, ()) 1 = some kz0_1 := Tu dz0_0 ((if_neg nnz0_0).trans (Tu dz0_1 (congrArg some (if_neg nnz0_1))))
   have nkz : decide (kz0_1 < 0) = false := decide_eq_false (by omega)
   simp only [e0, q0, e1, q1, t0, u0, t1, u1, v0, mkx0, mkx1, nkx, mkz0, hdz0, nkz, Option.bind_some, cond_false, cond_true, beq_self_eq_true, bne_self_eq_false, Bool.not_true, Bool.or_self, Bool.false_or]
theorem Rm : Bs Tryz.prog 4 sd_laws_FnExactCommit :=
 Av (pat := Ck) [] F5 (Ax (l := [(15, sd_laws_szStore), (16, sd_laws_szChangeS), (17, sd_spec_Commit), (18, sd_laws_toStore), (19, sd_laws_toChangeS), (20, sd_impl_Commit), (21, sd_laws_eqDone), (22, sd_laws_eqStore), (23, sd_laws_eqChangeS), (24, sd_laws_markStore), (25, sd_laws_markChangeS), (26, sd_laws_markDone), (27, sd_laws_heldDone)]) ⟨s7, W7, Adi, x7, Xj, Adx, Ad6, Rf, X6, N7, T7, d8, e9, trivial⟩) trivial Tryz.func4 (de := fun x => E9 x.1 x.2.1) (fun x r h => h) fun _ => by kernel_rfl
end Go.Proofs.YteaoabdlcefkhaaGreat.V

