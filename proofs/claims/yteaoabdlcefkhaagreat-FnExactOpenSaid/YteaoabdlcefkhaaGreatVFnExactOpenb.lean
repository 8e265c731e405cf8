/- What the functions that FnExactOpen reaches come to: part 2. No condition. -/
import Derived.Test.YteaoabdlcefkhaaGreatVFnExactOpena
import Derived.KernelRfl
namespace Go.Proofs.YteaoabdlcefkhaaGreat.V
open Go Go.Proofs.YteaoabdlcefkhaaGreat.R Go.Proofs
set_option maxRecDepth 100000
set_option linter.unusedVariables false
set_option linter.unusedSimpArgs false
def Kg (a : List ByteArray) : Option (List ByteArray) := toM (.sl .str) a
def Ab7 : Sig := ⟨[.rd (.sl .str)], [none], [.own 9 .str], [none]⟩
noncomputable def sd_laws_toStringS : SD := ⟨Ab7, fun x => (Kg x.1).bind fun r => some ((r, ()), (()))⟩
noncomputable def ta_laws_toStringS : Tb := tb []
def pa_laws_toStringS : Nat → Pat × (Nat → Pat) := Fe [(4, ⟨[.sl 0 0 .str, .row 3 0 9 .str], [(0, .lf (.d (.sl .str))), (3, .lf (.row 0)), (4, .lf (.d tI))], [.row 9 .str]⟩, [(2, ⟨[.row 3 0 9 .str], [(3, .lf (.row 0))], [.row 9 .str]⟩)])]
noncomputable def co_laws_toStringS_4 : Code := (Ao (A8 Tryz.f109)).getD 0 .skip
def Dl (v0 : List ByteArray) (v4 : Int) (r0 : List ByteArray) : Nat := ((v0.length : Int) - v4).toNat + 1
noncomputable def Gb {R : Type}  (NX : ((List ByteArray) × (Int) × (List ByteArray) × Unit) → Option R) (X2 : ((List ByteArray) × Unit) → Option R) (v0 : List ByteArray) (v4 : Int) (r0 : List ByteArray) : Option R :=
 bif decide (v4 < nI v0.length) then bif decide (0 ≤ v4) then bif decide (v4 < nI v0.length) then bif decide (0 ≤ v4) then bif decide (v4 < nI r0.length) then bif decide (v4.toNat < r0.length) then NX (v0, IntKind.i64.wrap (v4 + 1), r0.set v4.toNat (v0.getD v4.toNat (ByteArray.mk #[])), ()) else none else none else none else none else none else X2 (r0, ())
noncomputable def Bs : Nat → (List ByteArray) → (Int) → (List ByteArray) →  Option ((List ByteArray) × Unit)
 | 0, _, _, _ => none
 | m + 1, v0, v4, r0 => Gb  (fun d => Bs m d.1 d.2.1 d.2.2.1) (fun d => some (d)) v0 v4 r0
noncomputable def My (a0 : List ByteArray) : Option ((((List ByteArray) × Unit) × (Unit))) :=
 bif decide (nI a0.length = nI a0.length) then bif decide ((nI a0.length).toNat * 16 ≤ 140737488355328) then ((fun d => Bs (Dl d.1 d.2.1 d.2.2.1) d.1 d.2.1 d.2.2.1) (a0, 0, List.replicate (nI a0.length).toNat (ByteArray.mk #[]), ())).bind fun val => some (val, ()) else none else none
theorem Ab8 (a0 : List ByteArray) r (h : Kg a0 = some r) : My a0 = some ((r, ()), (())) := by
 obtain ⟨hc, rfl⟩ := Aat (t := .sl .str) h
 obtain ⟨hl0, hall⟩ := Aob hc
 have hl : a0.length ≤ 1048576 := hl0
 clear hl0 hc h
 ·unfold My
  have e : Int.toNat (nI a0.length) = a0.length := by simp [nI]
  have hL := Apz (xs := a0) (ByteArray.mk #[]) (g := fun m i r => Bs m a0 i r) (ok := fun r => (r, ())) (fun m i r hi hr => by
   show Bs (m + 1) a0 i r = _
   simp only [Bs, Gb]
   have hir : i < r.length := by omega
   rw [Ou hi, F2, Ou hir, wI (by omega)]
   simp only [cond_true, Int.toNat_natCast]
   rw [Axr hir]
   rfl) (fun m r => by
   show Bs (m + 1) a0 a0.length r = _
   simp only [Bs, Gb]
   rw [I0]
   rfl) (Dl a0 0 (List.replicate a0.length (ByteArray.mk #[]))) 0 (List.replicate a0.length (ByteArray.mk #[])) (by omega) (by simp [Dl]) (by simp)
  have c1 : decide (Int.toNat (nI a0.length) * 16 ≤ 140737488355328) = true := by rw [e]; simp; omega
  rw [c1, decide_eq_true rfl, e]
  have hL' : Bs (Dl a0 0 (List.replicate a0.length (ByteArray.mk #[]))) a0 0 (List.replicate a0.length (ByteArray.mk #[])) = _ := hL
  show (Bs (Dl a0 0 (List.replicate a0.length (ByteArray.mk #[]))) a0 0 (List.replicate a0.length (ByteArray.mk #[]))).bind _ = _
  rw [hL']
  rfl
noncomputable def Po {R : Type} (k : Kt R) := (Iz (pa_laws_toStringS 4) (.exit 0) 2 k)
noncomputable def Uv {R : Type} : Lt R pa_laws_toStringS := (Ef (pat := pa_laws_toStringS) 4 (fun d k => (Bs (Dl d.1 d.2.1 d.2.2.1) d.1 d.2.1 d.2.2.1).bind (Po k)) Fu)
theorem Su : As Tryz.prog ta_laws_toStringS := Au trivial
theorem Zw {R : Type} : Ay Tryz.prog R 22 0 pa_laws_toStringS Uv co_laws_toStringS_4 :=
 B6 (cfg := ⟨ta_laws_toStringS, 0, 22, pa_laws_toStringS⟩) 4 [] (fun NX X d => Gb  NX X d.1 d.2.1 d.2.2.1) (fun m d => Bs m d.1 d.2.1 d.2.2.1) (fun d => Dl d.1 d.2.1 d.2.2.1) Po Su trivial (fun f NX d => by unfold Gb; simp only [Am, Ap, Ah, Option.bind_assoc, Option.bind_none, Option.bind_some]) (fun _ _ _ => by kernel_rfl)
theorem Ab9 : Bo Tryz.prog 109 sd_laws_toStringS :=
 At (pat := pa_laws_toStringS) [co_laws_toStringS_4] Uv Su ⟨Zw, trivial⟩ Tryz.func109 (de := fun x => My x.1) (fun x r h => Az (Ab8 x.1) h) fun _ => by kernel_rfl
def Yw (a : Wr) : Option Wr := toM Eb a
def Ahm : Sig := ⟨[.rd Eb], [some 2], [.rd Eb], [some 2]⟩
noncomputable def sd_laws_toWrite : SD := ⟨Ahm, fun x => (Yw x.1).bind fun r => some ((r, ()), (()))⟩
noncomputable def Wz (a0 : Wr) : Option (((Wr × Unit) × (Unit))) :=
 some ((a0, ()), ())
theorem Ahn (a0 : Wr) r (h : Yw a0 = some r) : Wz a0 = some ((r, ()), (())) := by
 obtain ⟨hc, rfl⟩ := Aat (t := Eb) h
 ·rfl
theorem Aho : Bo Tryz.prog 185 sd_laws_toWrite :=
 At (pat := Cr) [] Fu (Au (l := []) trivial) trivial Tryz.func185 (de := fun x => Wz x.1) (fun x r h => Az (Ahn x.1) h) fun _ => by kernel_rfl
def K7 (a : List Wr) : Option (List Wr) := toM (.sl Eb) a
def Aer : Sig := ⟨[.rd (.sl Eb)], [none], [.own 182 Eb], [none]⟩
noncomputable def sd_laws_toWriteS : SD := ⟨Aer, fun x => (K7 x.1).bind fun r => some ((r, ()), (()))⟩
noncomputable def ta_laws_toWriteS : Tb := tb [(185, sd_laws_toWrite)]
def pa_laws_toWriteS : Nat → Pat × (Nat → Pat) := Fe [(4, ⟨[.sl 0 0 Eb, .row 3 0 182 Eb], [(0, .lf (.d (.sl Eb))), (3, .lf (.row 0)), (4, .lf (.d tI))], [.row 182 Eb]⟩, [(2, ⟨[.row 3 0 182 Eb], [(3, .lf (.row 0))], [.row 182 Eb]⟩)])]
noncomputable def co_laws_toWriteS_4 : Code := (Ao (A8 Tryz.f110)).getD 0 .skip
def D0 (v0 : List Wr) (v4 : Int) (r0 : List Wr) : Nat := ((v0.length : Int) - v4).toNat + 1
noncomputable def G6 {R : Type}  (NX : ((List Wr) × (Int) × (List Wr) × Unit) → Option R) (X2 : ((List Wr) × Unit) → Option R) (v0 : List Wr) (v4 : Int) (r0 : List Wr) : Option R :=
 bif decide (v4 < nI v0.length) then bif decide (0 ≤ v4) then bif decide (v4 < nI v0.length) then bif decide (0 ≤ v4) then bif decide (v4 < nI r0.length) then bif decide (v4.toNat < r0.length) then NX (v0, IntKind.i64.wrap (v4 + 1), r0.set v4.toNat (v0.getD v4.toNat (0, ByteArray.mk #[], ())), ()) else none else none else none else none else none else X2 (r0, ())
noncomputable def Bz : Nat → (List Wr) → (Int) → (List Wr) →  Option ((List Wr) × Unit)
 | 0, _, _, _ => none
 | m + 1, v0, v4, r0 => G6  (fun d => Bz m d.1 d.2.1 d.2.2.1) (fun d => some (d)) v0 v4 r0
noncomputable def N5 (a0 : List Wr) : Option ((((List Wr) × Unit) × (Unit))) :=
 bif decide (nI a0.length = nI a0.length) then bif decide ((nI a0.length).toNat * 24 ≤ 140737488355328) then ((fun d => Bz (D0 d.1 d.2.1 d.2.2.1) d.1 d.2.1 d.2.2.1) (a0, 0, List.replicate (nI a0.length).toNat (0, ByteArray.mk #[], ()), ())).bind fun val => some (val, ()) else none else none
theorem Aes (a0 : List Wr) r (h : K7 a0 = some r) : N5 a0 = some ((r, ()), (())) := by
 obtain ⟨hc, rfl⟩ := Aat (t := .sl Eb) h
 obtain ⟨hl0, hall⟩ := Aob hc
 have hl : a0.length ≤ 1048576 := hl0
 clear hl0 hc h
 ·unfold N5
  have e : Int.toNat (nI a0.length) = a0.length := by simp [nI]
  have hL := Apz (xs := a0) (0, (ByteArray.mk #[]), ()) (g := fun m i r => Bz m a0 i r) (ok := fun r => (r, ())) (fun m i r hi hr => by
   show Bz (m + 1) a0 i r = _
   simp only [Bz, G6]
   have hir : i < r.length := by omega
   rw [Ou hi, F2, Ou hir, wI (by omega)]
   simp only [cond_true, Int.toNat_natCast]
   rw [Axr hir]
   rfl) (fun m r => by
   show Bz (m + 1) a0 a0.length r = _
   simp only [Bz, G6]
   rw [I0]
   rfl) (D0 a0 0 (List.replicate a0.length (0, (ByteArray.mk #[]), ()))) 0 (List.replicate a0.length (0, (ByteArray.mk #[]), ())) (by omega) (by simp [D0]) (by simp)
  have c1 : decide (Int.toNat (nI a0.length) * 24 ≤ 140737488355328) = true := by rw [e]; simp; omega
  rw [c1, decide_eq_true rfl, e]
  have hL' : Bz (D0 a0 0 (List.replicate a0.length (0, (ByteArray.mk #[]), ()))) a0 0 (List.replicate a0.length (0, (ByteArray.mk #[]), ())) = _ := hL
  show (Bz (D0 a0 0 (List.replicate a0.length (0, (ByteArray.mk #[]), ()))) a0 0 (List.replicate a0.length (0, (ByteArray.mk #[]), ()))).bind _ = _
  rw [hL']
  rfl
noncomputable def Rj {R : Type} (k : Kt R) := (Iz (pa_laws_toWriteS 4) (.exit 0) 2 k)
noncomputable def W0 {R : Type} : Lt R pa_laws_toWriteS := (Ef (pat := pa_laws_toWriteS) 4 (fun d k => (Bz (D0 d.1 d.2.1 d.2.2.1) d.1 d.2.1 d.2.2.1).bind (Rj k)) Fu)
theorem Uw : As Tryz.prog ta_laws_toWriteS := Au ⟨Aho, trivial⟩
theorem s5 {R : Type} : Ay Tryz.prog R 23 0 pa_laws_toWriteS W0 co_laws_toWriteS_4 :=
 B6 (cfg := ⟨ta_laws_toWriteS, 0, 23, pa_laws_toWriteS⟩) 4 [] (fun NX X d => G6  NX X d.1 d.2.1 d.2.2.1) (fun m d => Bz m d.1 d.2.1 d.2.2.1) (fun d => D0 d.1 d.2.1 d.2.2.1) Rj Uw trivial (fun f NX d => by unfold G6; simp only [Am, Ap, Ah, Option.bind_assoc, Option.bind_none, Option.bind_some]) (fun _ _ _ => by kernel_rfl)
theorem Aet : Bo Tryz.prog 110 sd_laws_toWriteS :=
 At (pat := pa_laws_toWriteS) [co_laws_toWriteS_4] W0 Uw ⟨s5, trivial⟩ Tryz.func110 (de := fun x => N5 x.1) (fun x r h => Az (Aes x.1) h) fun _ => by kernel_rfl
def H4 (a : Dk) : Option Dk := toM yDk a
def Alq : Sig := ⟨[.rd yDk], [some 2], [.own 9 .str, .own 182 Eb], [some 2]⟩
noncomputable def sd_laws_toDisk : SD := ⟨Alq, fun x => (H4 x.1).bind fun r => some ((r.1, r.2.1, ()), (()))⟩
noncomputable def Rk (a0 : Dk) : Option ((Dk × (Unit))) :=
 ((Kg a0.1).bind fun val => some ((val, ()), ())).bind fun val => ((K7 a0.2.1).bind fun val => some ((val, ()), ())).bind fun val_1 => some ((val.1.1, val_1.1), ())
theorem Alr (a0 : Dk) r (h : H4 a0 = some r) : Rk a0 = some ((r.1, r.2.1, ()), (())) := by
 obtain ⟨hc, rfl⟩ := Aat (t := yDk) h
 ·obtain ⟨s0, s1, _⟩ : Ie (.sl .str) a0.1 = true ∧ Ie (.sl Eb) a0.2.1 = true ∧ True := by
   have s := hc
   obtain ⟨h0, s⟩ := Afw s
   obtain ⟨h1, s⟩ := Afw s
   exact ⟨h0, h1, trivial⟩
  unfold Rk
  have e0 : Kg a0.1 = some a0.1 := Au1 (t := (.sl .str)) s0
  have e1 : K7 a0.2.1 = some a0.2.1 := Au1 (t := (.sl Eb)) s1
  simp only [e0, e1]
  rfl
theorem Als : Bo Tryz.prog 30 sd_laws_toDisk :=
 At (pat := Cr) [] Fu (Au (l := [(109, sd_laws_toStringS), (110, sd_laws_toWriteS)]) ⟨Ab9, Aet, trivial⟩) trivial Tryz.func30 (de := fun x => Rk x.1) (fun x r h => Az (Alr x.1) h) fun _ => by kernel_rfl
def Cg (v lo hi : Int) : Bool := E9 v lo hi
def Avd : Sig := ⟨[.rd tI, .rd tI, .rd tI], [none, none, none], [.rd .bool], [none]⟩
noncomputable def sd_impl_in : SD := ⟨Avd, fun x => some (((Cg x.1 x.2.1 x.2.2.1), ()), (()))⟩
noncomputable def s6 (a0 : Int) (a1 : Int) (a2 : Int) : Option ((((Bool) × Unit) × (Unit))) :=
 bif decide (a0 ≥ a1) then some ((decide (a0 ≤ a2), ()), ()) else some ((false, ()), ())
theorem Ave (a0 a1 a2 : Int) : s6 a0 a1 a2 = some ((Cg a0 a1 a2, ()), ()) := by
 unfold s6 Cg E9
 by_cases h : a0 ≥ a1
 ·have : decide (a1 ≤ a0) = true := by simpa using h
  simp [h, this]
 ·have : decide (a1 ≤ a0) = false := by simpa using h
  simp [h, this]
theorem En : Bo Tryz.prog 112 sd_impl_in :=
 At (pat := Cr) [] Fu (Au (l := []) trivial) trivial Tryz.func112 (de := fun x => s6 x.1 x.2.1 x.2.2.1) (fun x r h => (Ave x.1 x.2.1 x.2.2.1).trans h) fun _ => by kernel_rfl
def Mz (k : ByteArray) : Bool := Lw k
def Ahp : Sig := ⟨[.rd .str], [none], [.rd .bool], [none]⟩
noncomputable def sd_impl_goodKey : SD := ⟨Ahp, fun x => some (((Mz x.1), ()), (()))⟩
noncomputable def W1 (a0 : ByteArray) : Option ((((Bool) × Unit) × (Unit))) :=
 some ((Cg (nI a0.size) 1 20, ()), ())
theorem Ahq (a0 : ByteArray) : W1 a0 = some ((Mz a0, ()), ()) := rfl
theorem W2 : Bo Tryz.prog 169 sd_impl_goodKey :=
 At (pat := Cr) [] Fu (Au (l := [(112, sd_impl_in)]) ⟨En, trivial⟩) trivial Tryz.func169 (de := fun x => W1 x.1) (fun x r h => (Ahq x.1).trans h) fun _ => by kernel_rfl
def F0 (b : List Chg) : Bool := Bd b
def s7 : Sig := ⟨[.rd (.sl Du)], [none], [.rd .bool], [none]⟩
noncomputable def sd_impl_ValidBatch : SD := ⟨s7, fun x => some (((F0 x.1), ()), (()))⟩
noncomputable def ta_impl_ValidBatch : Tb := tb [(112, sd_impl_in), (169, sd_impl_goodKey)]
def pa_impl_ValidBatch : Nat → Pat × (Nat → Pat) := Fe [(5, ⟨[.sl 9 0 Du], [(9, .lf (.d (.sl Du))), (10, .lf (.d tI)), (11, .lf (.d tI))], []⟩, [(2, p0), (1, ⟨[], [(2, .lf (.d .bool))], []⟩)])]
noncomputable def co_impl_ValidBatch_5 : Code := (Ao (A8 Tryz.f89)).getD 0 .skip
def Fm (v9 : List Chg) (v10 : Int) (v11 : Int) : Nat := (v10 - v11).toNat + 1
noncomputable def Fo {R : Type}  (NX : ((List Chg) × (Int) × (Int) × Unit) → Option R) (X2 : (Unit) → Option R) (X1 : ((Bool) × Unit) → Option R) (v9 : List Chg) (v10 : Int) (v11 : Int) : Option R :=
 bif decide (v11 < v10) then bif decide (0 ≤ v11) then bif decide (v11 < nI v9.length) then bif !Mz (v9.getD v11.toNat (ByteArray.mk #[], ByteArray.mk #[], false, ())).1 then X1 (false, ()) else bif decide (nI (ByteArray.size (v9.getD v11.toNat (ByteArray.mk #[], ByteArray.mk #[], false, ())).2.1) > 100) then X1 (false, ()) else bif (v9.getD v11.toNat (ByteArray.mk #[], ByteArray.mk #[], false, ())).2.2.1 then bif !ByteArray.toList (v9.getD v11.toNat (ByteArray.mk #[], ByteArray.mk #[], false, ())).2.1 == (ByteArray.mk #[]).toList then X1 (false, ()) else NX (v9, v10, IntKind.i64.wrap (v11 + 1), ()) else NX (v9, v10, IntKind.i64.wrap (v11 + 1), ()) else none else none else X2 PUnit.unit
noncomputable def B5 : Nat → (List Chg) → (Int) → (Int) →  Option ((Unit) ⊕ ((Bool) × Unit))
 | 0, _, _, _ => none
 | m + 1, v9, v10, v11 => Fo  (fun d => B5 m d.1 d.2.1 d.2.2.1) (fun d => some (.inl (d))) (fun d => some (.inr (d))) v9 v10 v11
noncomputable def Ll (a0 : List Chg) : Option ((((Bool) × Unit) × (Unit))) :=
 bif !Cg (nI a0.length) 1 20 then some ((false, ()), ()) else ((fun d => B5 (Fm d.1 d.2.1 d.2.2.1) d.1 d.2.1 d.2.2.1) (a0, nI a0.length, 0, ())).bind fun val => Cs (fun val => some ((true, ()), ())) (fun val => some (val, ())) val
theorem s8 (a0 : List Chg) : Ll a0 = some (((F0 a0), ()), (())) := by
 unfold Ll F0 Bd
 have tl : ByteArray.toList (ByteArray.mk #[]) = [] := by decide +kernel
 show (bif !E9 (a0.length : Int) 1 20 then _ else _) = _
 cases hin : E9 (a0.length : Int) 1 20 with
 | false => rfl
 | true =>
  have hlen : a0.length ≤ 20 := by have := (Hb hin).2; omega
  have hL := Ma (n := a0.length) (fun i => L8 (a0.getD i zC)) (g := fun m i => B5 m a0 (nI a0.length) i) (ok := .inl ()) (bad := .inr (false, ())) (fun m i hi => by
   show B5 (m + 1) a0 (nI a0.length) i = _
   simp only [B5, Fo]
   rw [tl, Ou hi, F2, wI (show i < 4611686018427387904 by omega), Int.toNat_natCast]
   have g1 : decide (nI (ByteArray.size (List.getD a0 i (ByteArray.mk #[], ByteArray.mk #[], false, ())).2.1) > 100) = !decide ((a0.getD i zC).2.1.size ≤ 100) := Aav _ 100
   rw [g1]
   show (bif !Lw (a0.getD i zC).1 then _ else (bif _ then _ else (bif (a0.getD i zC).2.2.1 then (bif !((a0.getD i zC).2.1.toList == []) then _ else _) else _))) = _
   unfold L8
   cases Lw (a0.getD i zC).1 <;> cases decide ((a0.getD i zC).2.1.size ≤ 100) <;> cases (a0.getD i zC).2.2.1 <;> cases ((a0.getD i zC).2.1.toList == []) <;> rfl) (fun m => by
   show B5 (m + 1) a0 (nI a0.length) (a0.length : Int) = _
   simp only [B5, Fo]
   rw [I0]
   rfl) (Fm a0 (nI a0.length) 0) 0 (by omega) (by simp [Fm, nI])
  refine Tk hL ?_
  rw [Nat.sub_zero]
  cases (List.range' 0 a0.length).all (fun i => L8 (a0.getD i zC)) <;> rfl
noncomputable def Oy {R : Type} (k : Kt R) := (Cs (Iz (pa_impl_ValidBatch 5) (.exit 0) 2 k) (Iz (pa_impl_ValidBatch 5) .ret 1 k))
noncomputable def Sv {R : Type} : Lt R pa_impl_ValidBatch := (Ef (pat := pa_impl_ValidBatch) 5 (fun d k => (B5 (Fm d.1 d.2.1 d.2.2.1) d.1 d.2.1 d.2.2.1).bind (Oy k)) Fu)
theorem Rl : As Tryz.prog ta_impl_ValidBatch := Au ⟨En, W2, trivial⟩
theorem Yx {R : Type} : Ay Tryz.prog R 35 0 pa_impl_ValidBatch Sv co_impl_ValidBatch_5 :=
 B6 (cfg := ⟨ta_impl_ValidBatch, 0, 35, pa_impl_ValidBatch⟩) 5 [] (fun NX X d => Fo  NX (fun e => X (.inl (e))) (fun e => X (.inr (e))) d.1 d.2.1 d.2.2.1) (fun m d => B5 m d.1 d.2.1 d.2.2.1) (fun d => Fm d.1 d.2.1 d.2.2.1) Oy Rl trivial (fun f NX d => by unfold Fo; simp only [Am, Ap, Ah, Option.bind_assoc, Option.bind_none, Option.bind_some]) (fun _ _ _ => by kernel_rfl)
theorem Lm : Bo Tryz.prog 89 sd_impl_ValidBatch :=
 At (pat := pa_impl_ValidBatch) [co_impl_ValidBatch_5] Sv Rl ⟨Yx, trivial⟩ Tryz.func89 (de := fun x => Ll x.1) (fun x r h => (s8 x.1).trans h) fun _ => by kernel_rfl
def H0 (s : Stt) : Bool := Bf s
def s9 : Sig := ⟨[.rd Py], [some 1], [.rd .bool], [none]⟩
noncomputable def sd_impl_ValidState : SD := ⟨s9, fun x => some (((H0 x.1), ()), (()))⟩
noncomputable def ta_impl_ValidState : Tb := tb [(169, sd_impl_goodKey)]
def pa_impl_ValidState : Nat → Pat × (Nat → Pat) := Fe [(5, ⟨[.sl 10 0 Aq, .boxSl 1 0 Aq], [(1, .lf (.ptr 0 0)), (10, .lf (.d (.sl Aq))), (11, .lf (.d tI)), (12, .lf (.d tI))], [.box 31 [.d (.sl Aq)]]⟩, [(2, p0), (1, ⟨[], [(2, .lf (.d .bool))], []⟩)])]
noncomputable def co_impl_ValidState_5 : Code := (Ao (A8 Tryz.f156)).getD 0 .skip
def C3 (v10 : List Pr2) (v11 : Int) (v12 : Int) (b0_0 : List Pr2) : Nat := (v11 - v12).toNat + 1
noncomputable def Fp {R : Type}  (NX : ((List Pr2) × (Int) × (Int) × (List Pr2) × Unit) → Option R) (X2 : (Unit) → Option R) (X1 : ((Bool) × Unit) → Option R) (v10 : List Pr2) (v11 : Int) (v12 : Int) (b0_0 : List Pr2) : Option R :=
 bif decide (v12 < v11) then bif decide (0 ≤ v12) then bif decide (v12 < nI v10.length) then bif !Mz (v10.getD v12.toNat (ByteArray.mk #[], ByteArray.mk #[], ())).1 then X1 (false, ()) else bif decide (nI (ByteArray.size (v10.getD v12.toNat (ByteArray.mk #[], ByteArray.mk #[], ())).2.1) > 100) then X1 (false, ()) else bif decide (v12 > 0) then bif decide (0 ≤ IntKind.i64.wrap (v12 - 1)) then bif decide (IntKind.i64.wrap (v12 - 1) < nI b0_0.length) then bif !Op.bytesLess (ByteArray.toList (b0_0.getD (IntKind.i64.wrap (v12 - 1)).toNat (ByteArray.mk #[], ByteArray.mk #[], ())).1) (ByteArray.toList (v10.getD v12.toNat (ByteArray.mk #[], ByteArray.mk #[], ())).1) then X1 (false, ()) else NX (v10, v11, IntKind.i64.wrap (v12 + 1), b0_0, ()) else none else none else NX (v10, v11, IntKind.i64.wrap (v12 + 1), b0_0, ()) else none else none else X2 PUnit.unit
noncomputable def Bm : Nat → (List Pr2) → (Int) → (Int) → (List Pr2) →  Option ((Unit) ⊕ ((Bool) × Unit))
 | 0, _, _, _, _ => none
 | m + 1, v10, v11, v12, b0_0 => Fp  (fun d => Bm m d.1 d.2.1 d.2.2.1 d.2.2.2.1) (fun d => some (.inl (d))) (fun d => some (.inr (d))) v10 v11 v12 b0_0
noncomputable def Ln (a0 : Stt) : Option ((((Bool) × Unit) × (Unit))) :=
 bif decide (nI (List.length a0.1) > 100) then some ((false, ()), ()) else ((fun d => Bm (C3 d.1 d.2.1 d.2.2.1 d.2.2.2.1) d.1 d.2.1 d.2.2.1 d.2.2.2.1) (a0.1, nI (List.length a0.1), 0, a0)).bind fun val => Cs (fun val => some ((true, ()), ())) (fun val => some (val, ())) val
theorem u1 (a0 : Stt) : Ln a0 = some ((H0 a0, ()), ()) := by
 unfold Ln H0 Bf
 have c1 : decide (nI a0.1.length > 100) = !decide (a0.1.length ≤ 100) := Aav _ 100
 by_cases hl : a0.1.length ≤ 100
 ·have hL := Ma (n := a0.1.length) (Ja a0.1) (g := fun m i => Bm m a0.1 (nI a0.1.length) i a0.1) (ok := .inl ()) (bad := .inr (false, ())) (fun m i hi => by
   show Bm (m + 1) a0.1 (nI a0.1.length) i a0.1 = _
   simp only [Bm, Fp]
   have g1 : decide (nI (ByteArray.size (List.getD a0.1 i (ByteArray.mk #[], ByteArray.mk #[], ())).2.1) > 100) = !decide (ByteArray.size (List.getD a0.1 i zP).2.1 ≤ 100) := Aav _ 100
   rw [Ou hi, F2, wI (show i < 4611686018427387904 by omega), Int.toNat_natCast, gt0, g1]
   simp only [cond_true]
   unfold Ja bl
   show (bif !Lw (List.getD a0.1 i zP).1 then _ else _) = _
   cases i with
   | zero =>
    show (bif !Lw (List.getD a0.1 0 zP).1 then _ else bif !decide (ByteArray.size (List.getD a0.1 0 zP).2.1 ≤ 100) then _ else _) = _
    cases Lw (List.getD a0.1 0 zP).1 <;> cases decide (ByteArray.size (List.getD a0.1 0 zP).2.1 ≤ 100) <;> rfl
   | succ j =>
    rw [wP j (by omega), F2, Ou (show j < a0.1.length by omega)]
    show (bif !Lw (List.getD a0.1 (j + 1) zP).1 then _ else bif !decide (ByteArray.size (List.getD a0.1 (j + 1) zP).2.1 ≤ 100) then _ else bif !Op.bytesLess (ByteArray.toList (List.getD a0.1 j zP).1) (ByteArray.toList (List.getD a0.1 (j + 1) zP).1) then _ else _) = _
    rw [Nat.add_sub_cancel]
    cases Lw (List.getD a0.1 (j + 1) zP).1 <;> cases decide (ByteArray.size (List.getD a0.1 (j + 1) zP).2.1 ≤ 100) <;> cases Op.bytesLess (ByteArray.toList (List.getD a0.1 j zP).1) (ByteArray.toList (List.getD a0.1 (j + 1) zP).1) <;> rfl) (fun m => by
   show Bm (m + 1) a0.1 (nI a0.1.length) (a0.1.length : Int) a0.1 = _
   simp only [Bm, Fp]
   rw [I0]
   rfl) (C3 a0.1 (nI a0.1.length) 0 a0.1) 0 (by omega) (by simp [C3, nI])
  have hL' : Bm (C3 a0.1 (nI a0.1.length) 0 a0.1) a0.1 (nI a0.1.length) 0 a0.1 = _ := hL
  rw [c1, decide_eq_true hl]
  show (Bm (C3 a0.1 (nI a0.1.length) 0 a0.1) a0.1 (nI a0.1.length) 0 a0.1).bind _ = _
  rw [hL']
  cases (List.range' 0 (a0.1.length - 0)).all (Ja a0.1) <;> rfl
 ·rw [c1, decide_eq_false hl]
  rfl
noncomputable def Oz {R : Type} (k : Kt R) := (Cs (Iz (pa_impl_ValidState 5) (.exit 0) 2 k) (Iz (pa_impl_ValidState 5) .ret 1 k))
noncomputable def Sw {R : Type} : Lt R pa_impl_ValidState := (Ef (pat := pa_impl_ValidState) 5 (fun d k => (Bm (C3 d.1 d.2.1 d.2.2.1 d.2.2.2.1) d.1 d.2.1 d.2.2.1 d.2.2.2.1).bind (Oz k)) Fu)
theorem Rm : As Tryz.prog ta_impl_ValidState := Au ⟨W2, trivial⟩
theorem Yy {R : Type} : Ay Tryz.prog R 44 0 pa_impl_ValidState Sw co_impl_ValidState_5 :=
 B6 (cfg := ⟨ta_impl_ValidState, 0, 44, pa_impl_ValidState⟩) 5 [] (fun NX X d => Fp  NX (fun e => X (.inl (e))) (fun e => X (.inr (e))) d.1 d.2.1 d.2.2.1 d.2.2.2.1) (fun m d => Bm m d.1 d.2.1 d.2.2.1 d.2.2.2.1) (fun d => C3 d.1 d.2.1 d.2.2.1 d.2.2.2.1) Oz Rm trivial (fun f NX d => by unfold Fp; simp only [Am, Ap, Ah, Option.bind_assoc, Option.bind_none, Option.bind_some]) (fun _ _ _ => by kernel_rfl)
theorem Rn : Bo Tryz.prog 156 sd_impl_ValidState :=
 At (pat := pa_impl_ValidState) [co_impl_ValidState_5] Sw Rm ⟨Yy, trivial⟩ Tryz.func156 (de := fun x => Ln x.1) (fun x r h => (u1 x.1).trans h) fun _ => by kernel_rfl
def I3 (s : Stt) (b : List Chg) : Stt × Int := Mc s b
def Amz : Sig := ⟨[.rd Py, .rd (.sl Du)], [some 1, none], [.own 167 Aq, .rd tI], [some 1, none]⟩
noncomputable def sd_impl_Apply : SD := ⟨Amz, fun x => some (((I3 x.1 x.2.1).1.1, (I3 x.1 x.2.1).2, ()), (()))⟩
noncomputable def Ol : Tb := ⟨tbF [(89, sd_impl_ValidBatch), (156, sd_impl_ValidState)], fun _ => none, none, none, some (170, 171, 31, 29, 167)⟩
def pa_impl_Apply : Nat → Pat × (Nat → Pat) := Fe [(6, ⟨[.sl 1 0 Du, .sl 25 0 Aq, .boxRow 4 0 167 Aq], [(1, .lf (.d (.sl Du))), (4, .lf (.ptr 0 0)), (6, .lf (.row 1)), (25, .lf (.d (.sl Aq))), (26, .lf (.d tI)), (27, .lf (.d tI))], [.box 31 [.row 2], .map .str, .row 167 Aq]⟩, [(2, ⟨[.sl 1 0 Du, .boxRow 4 0 167 Aq], [(1, .lf (.d (.sl Du))), (4, .lf (.ptr 0 0)), (6, .lf (.row 1))], [.box 31 [.row 2], .map .str, .row 167 Aq]⟩)]), (11, ⟨[.sl 37 0 Du, .boxRow 4 0 167 Aq], [(4, .lf (.ptr 0 0)), (6, .lf (.row 1)), (37, .lf (.d (.sl Du))), (38, .lf (.d tI)), (39, .lf (.d tI))], [.box 31 [.row 2], .map .str, .row 167 Aq]⟩, [(4, ⟨[.boxRow 4 0 167 Aq], [(4, .lf (.ptr 0 0)), (6, .lf (.row 1))], [.box 31 [.row 2], .map .str, .row 167 Aq]⟩)]), (21, ⟨[.boxRow 4 0 167 Aq, .boxRow 11 0 167 Aq], [(4, .lf (.ptr 0 0)), (11, .lf (.ptr 1 0)), (59, .lf (.row 2))], [.box 31 [.row 3], .box 31 [.row 4], .iter .str, .row 167 Aq, .row 167 Aq]⟩, [(6, ⟨[.boxRow 4 0 167 Aq, .boxRow 11 0 167 Aq], [(4, .lf (.ptr 0 0)), (11, .lf (.ptr 1 0))], [.box 31 [.row 2], .box 31 [.row 3], .row 167 Aq, .row 167 Aq]⟩)])]
noncomputable def co_impl_Apply_6 : Code := (Ao (A8 Tryz.f90)).getD 0 .skip
noncomputable def co_impl_Apply_11 : Code := (Ao (A8 Tryz.f90)).getD 1 .skip
noncomputable def co_impl_Apply_21 : Code := (Ao (A8 Tryz.f90)).getD 2 .skip
noncomputable def Kh (i2 : List (ByteArray × ByteArray)) (l2 : List (ByteArray × ByteArray)) (c2 : Option (ByteArray × ByteArray)) (r3 : List Pr2) (r4 : List Pr2) (e0 : ByteArray) (e1 : ByteArray) (e2 : List (ByteArray × ByteArray)) : Option ((List (ByteArray × ByteArray)) × (List (ByteArray × ByteArray)) × (Option (ByteArray × ByteArray)) × (List Pr2) × (List Pr2) × Unit) :=
 bif decide ((r4.length + [(e0, e1, ())].length) * 32 ≤ 140737488355328) then some (i2, e2, some (e0, e1), r3, r4 ++ [(e0, e1, ())], ()) else none
noncomputable def Ux (i2 : List (ByteArray × ByteArray)) (l2 : List (ByteArray × ByteArray)) (c2 : Option (ByteArray × ByteArray)) (r3 : List Pr2) (r4 : List Pr2) : Option ((List Pr2) × (List Pr2) × Unit) :=
 some (r3, r4, ())
noncomputable def N6 {R : Type} (i2 : List (ByteArray × ByteArray)) (l2 : List (ByteArray × ByteArray)) (c2 : Option (ByteArray × ByteArray)) (r3 : List Pr2) (r4 : List Pr2) (kk : ((List Pr2) × (List Pr2) × Unit) → Option R) : Option R := Axk (fun d : ((List (ByteArray × ByteArray)) × (List (ByteArray × ByteArray)) × (Option (ByteArray × ByteArray)) × (List Pr2) × (List Pr2) × Unit) => d.2.1) (fun d e l => Kh d.1 d.2.1 d.2.2.1 d.2.2.2.1 d.2.2.2.2.1 e.1 e.2 l) (fun d => (Ux d.1 d.2.1 d.2.2.1 d.2.2.2.1 d.2.2.2.2.1).bind kk) (i2, l2, c2, r3, r4, ())
def Gm (v37 : List Chg) (v38 : Int) (v39 : Int) (m1 : List (ByteArray × ByteArray)) (r2 : List Pr2) : Nat := (v38 - v39).toNat + 1
noncomputable def It {R : Type}  (NX : ((List Chg) × (Int) × (Int) × (List (ByteArray × ByteArray)) × (List Pr2) × Unit) → Option R) (X4 : ((List (ByteArray × ByteArray)) × (List Pr2) × Unit) → Option R) (v37 : List Chg) (v38 : Int) (v39 : Int) (m1 : List (ByteArray × ByteArray)) (r2 : List Pr2) : Option R :=
 bif decide (v39 < v38) then bif decide (0 ≤ v39) then bif decide (v39 < nI v37.length) then bif (v37.getD v39.toNat (ByteArray.mk #[], ByteArray.mk #[], false, ())).2.2.1 then NX (v37, v38, IntKind.i64.wrap (v39 + 1), Xh (v37.getD v39.toNat (ByteArray.mk #[], ByteArray.mk #[], false, ())).1 m1, r2, ()) else NX (v37, v38, IntKind.i64.wrap (v39 + 1), Qf (v37.getD v39.toNat (ByteArray.mk #[], ByteArray.mk #[], false, ())).1 (v37.getD v39.toNat (ByteArray.mk #[], ByteArray.mk #[], false, ())).2.1 m1, r2, ()) else none else none else X4 (m1, r2, ())
noncomputable def Cq : Nat → (List Chg) → (Int) → (Int) → (List (ByteArray × ByteArray)) → (List Pr2) →  Option ((List (ByteArray × ByteArray)) × (List Pr2) × Unit)
 | 0, _, _, _, _, _ => none
 | m + 1, v37, v38, v39, m1, r2 => It  (fun d => Cq m d.1 d.2.1 d.2.2.1 d.2.2.2.1 d.2.2.2.2.1) (fun d => some (d)) v37 v38 v39 m1 r2
def Hi (v1 : List Chg) (v25 : List Pr2) (v26 : Int) (v27 : Int) (m1 : List (ByteArray × ByteArray)) (r2 : List Pr2) : Nat := (v26 - v27).toNat + 1
noncomputable def Jh {R : Type}  (NX : ((List Chg) × (List Pr2) × (Int) × (Int) × (List (ByteArray × ByteArray)) × (List Pr2) × Unit) → Option R) (X2 : ((List Chg) × (List (ByteArray × ByteArray)) × (List Pr2) × Unit) → Option R) (v1 : List Chg) (v25 : List Pr2) (v26 : Int) (v27 : Int) (m1 : List (ByteArray × ByteArray)) (r2 : List Pr2) : Option R :=
 bif decide (v27 < v26) then bif decide (0 ≤ v27) then bif decide (v27 < nI v25.length) then NX (v1, v25, v26, IntKind.i64.wrap (v27 + 1), Qf (v25.getD v27.toNat (ByteArray.mk #[], ByteArray.mk #[], ())).1 (v25.getD v27.toNat (ByteArray.mk #[], ByteArray.mk #[], ())).2.1 m1, r2, ()) else none else none else X2 (v1, m1, r2, ())
noncomputable def C8 : Nat → (List Chg) → (List Pr2) → (Int) → (Int) → (List (ByteArray × ByteArray)) → (List Pr2) →  Option ((List Chg) × (List (ByteArray × ByteArray)) × (List Pr2) × Unit)
 | 0, _, _, _, _, _, _ => none
 | m + 1, v1, v25, v26, v27, m1, r2 => Jh  (fun d => C8 m d.1 d.2.1 d.2.2.1 d.2.2.2.1 d.2.2.2.2.1 d.2.2.2.2.2.1) (fun d => some (d)) v1 v25 v26 v27 m1 r2
noncomputable def Ti (a0 : Stt) (a1 : List Chg) : Option ((((List Pr2) × (Int) × Unit) × (Unit))) :=
 bif !H0 a0 then some (([], 1, ()), ()) else bif !F0 a1 then some (([], 1, ()), ()) else ((fun d => C8 (Hi d.1 d.2.1 d.2.2.1 d.2.2.2.1 d.2.2.2.2.1 d.2.2.2.2.2.1) d.1 d.2.1 d.2.2.1 d.2.2.2.1 d.2.2.2.2.1 d.2.2.2.2.2.1) (a1, a0.1, nI (List.length a0.1), 0, [], [], ())).bind fun val => ((fun d => Cq (Gm d.1 d.2.1 d.2.2.1 d.2.2.2.1 d.2.2.2.2.1) d.1 d.2.1 d.2.2.1 d.2.2.2.1 d.2.2.2.2.1) (val.1, nI (List.length val.1), 0, val.2)).bind fun val => bif decide (nI val.1.length > 100) then some (([], 2, ()), ()) else (fun d kk => N6 d.1 d.2.1 d.2.2.1 d.2.2.2.1 d.2.2.2.2.1 kk) (val.1, val.1, none, val.2.1, [], ()) fun d => bif Dr d.2.1 then bif decide (d.2.1.length ≤ 1000) then some ((List.foldr Ago [] d.2.1, 0, ()), ()) else none else none
theorem Atj (v1 : List Chg) (xs : List Pr2) (hx : xs.length ≤ 100) : C8 (Hi v1 xs (nI xs.length) 0 [] []) v1 xs (nI xs.length) 0 [] [] = some (v1, Aki xs, [], ()) := by
 have hL := E4 (xs := xs) zP (fun _ _ => True) (fun _ p m => Qf p.1 p.2.1 m) (g := fun m i M => C8 m v1 xs (nI xs.length) i M []) (ok := fun M => (v1, M, [], ())) (fun m i M hi _ => by
   show C8 (m + 1) v1 xs (nI xs.length) i M [] = _
   simp only [C8, Jh]
   rw [Ou hi, F2, wI (show i < 4611686018427387904 by omega), Int.toNat_natCast]
   rfl) (fun _ _ _ _ => trivial) (fun m M _ => by
   show C8 (m + 1) v1 xs (nI xs.length) (xs.length : Int) M [] = _
   simp only [C8, Jh]
   rw [I0]
   rfl) (Hi v1 xs (nI xs.length) 0 [] []) 0 [] (by omega) (by simp [Hi, nI]) trivial
 rw [List.drop_zero] at hL
 exact hL
theorem Aqp (b : List Chg) (m0 : Mp) (hb : b.length ≤ 20) : Cq (Gm b (nI b.length) 0 m0 []) b (nI b.length) 0 m0 [] = some (Eu (fun _ c m => Af3 c m) 0 b m0, [], ()) := by
 have hL := E4 (xs := b) zC (fun _ _ => True) (fun _ c m => Af3 c m) (g := fun m i M => Cq m b (nI b.length) i M []) (ok := fun M => (M, [], ())) (fun m i M hi _ => by
   show Cq (m + 1) b (nI b.length) i M [] = _
   simp only [Cq, It]
   rw [Ou hi, F2, wI (show i < 4611686018427387904 by omega), Int.toNat_natCast]
   simp only [cond_true]
   unfold Af3
   show (bif (List.getD b i zC).2.2.1 then _ else _) = _
   cases (List.getD b i zC).2.2.1 <;> rfl) (fun _ _ _ _ => trivial) (fun m M _ => by
   show Cq (m + 1) b (nI b.length) (b.length : Int) M [] = _
   simp only [Cq, It]
   rw [I0]
   rfl) (Gm b (nI b.length) 0 m0 []) 0 m0 (by omega) (by simp [Gm, nI]) trivial
 rw [List.drop_zero] at hL
 exact hL
theorem Am0 (a0 : Stt) (a1 : List Chg) : Ti a0 a1 = some (((I3 a0 a1).1.1, (I3 a0 a1).2, ()), (())) := by
 unfold Ti I3 Mc
 show (bif !Bf a0 then _ else bif !Bd a1 then _ else _) = _
 cases hv : Bf a0 with
 | false => rfl
 | true =>
  cases hb : Bd a1 with
  | false => rfl
  | true =>
   simp only [Bool.not_true, cond_false]
   have hl := Fh hv
   have hb2 := Hb (Cj hb).1
   refine Td (Atj a1 a0.1 hl) ?_
   dsimp only
   refine Td (Aqp a1 (Aki a0.1) (by omega)) ?_
   dsimp only
   have hM : Zp (Eu (fun _ c m => Af3 c m) 0 a1 (Aki a0.1)) (Mb a0.1 a1) := (Zp.init (Aoo hv)).fold
   have hlen := hM.len
   generalize Eu (fun _ c m => Af3 c m) 0 a1 (Aki a0.1) = M at hM hlen
   by_cases q : M.length > 100
   ·rw [decide_eq_true (show nI M.length > 100 by simp only [nI]; omega), decide_eq_true (show (Mb a0.1 a1).length > 100 by omega)]
    rfl
   ·rw [decide_eq_false (show ¬ nI M.length > 100 by simp only [nI]; omega), decide_eq_false (show ¬ (Mb a0.1 a1).length > 100 by omega)]
    simp only [cond_false]
    unfold N6
    refine A0x (m := M.length + 1) ?_
    refine Az0 M (Mb a0.1 a1) hM (by omega) (fun l c r => (M, l, c, [], r, ())) (fun _ _ _ => rfl) (fun l c r e l' hr => ?_) (fun c r h1 h2 h3 => ?_) M.length M none [] rfl (List.Perm.refl _)
    ·show Kh M l c [] r e.1 e.2 l' = _
     unfold Kh
     rw [List.length_singleton, decide_eq_true (show (r.length + 1) * 32 ≤ 140737488355328 by omega)]
     rfl
    ·show (bif Dr r then bif decide (r.length ≤ 1000) then some ((L5 r, 0, ()), ()) else none else none) = _
     rw [h1, decide_eq_true h2, h3]
     rfl
noncomputable def W3 {R : Type} (k : Kt R) := (Iz (pa_impl_Apply 6) (.exit 0) 2 k)
noncomputable def Uy {R : Type} (k : Kt R) := (Iz (pa_impl_Apply 11) (.exit 2) 4 k)
noncomputable def Aeu {R : Type} (k : Kt R) := (Iz (pa_impl_Apply 21) (.exit 4) 6 k)
noncomputable def P4 {R : Type} : Lt R pa_impl_Apply := (Ef (pat := pa_impl_Apply) 6 (fun d k => (C8 (Hi d.1 d.2.1 d.2.2.1 d.2.2.2.1 d.2.2.2.2.1 d.2.2.2.2.2.1) d.1 d.2.1 d.2.2.1 d.2.2.2.1 d.2.2.2.2.1 d.2.2.2.2.2.1).bind (W3 k)) (Ef (pat := pa_impl_Apply) 11 (fun d k => (Cq (Gm d.1 d.2.1 d.2.2.1 d.2.2.2.1 d.2.2.2.2.1) d.1 d.2.1 d.2.2.1 d.2.2.2.1 d.2.2.2.2.1).bind (Uy k)) (Ef (pat := pa_impl_Apply) 21 (fun d k => N6 d.1 d.2.1 d.2.2.1 d.2.2.2.1 d.2.2.2.2.1 (Aeu k)) Fu)))
theorem Om : As Tryz.prog Ol where
 sd := Apx (l := [(89, sd_impl_ValidBatch), (156, sd_impl_ValidState)]) ⟨Lm, Rn, trivial⟩
 inl := fun f fn h => by cases h
 cc := fun f BT h => by cases h
 st := fun f BT e h => by cases h
 srt := fun fs fc BT U e h => by cases h; exact ⟨⟨_, Tryz.func170, by kernel_rfl, by kernel_rfl⟩, Ax4⟩
theorem Aev {R : Type} : Ay Tryz.prog R 79 0 pa_impl_Apply P4 co_impl_Apply_21 :=
 Azd (cfg := ⟨Ol, 0, 79, pa_impl_Apply⟩) (key := 21) (it := .tmp 59) (sl := 60) (ii := 2) (xid := 4) (t := .str) (by kernel_rfl) (by kernel_rfl) Om rfl rfl rfl (by kernel_rfl) (by kernel_rfl) (xs := fun d => d.1) (left := fun d => d.2.1) (cur := fun d => d.2.2.1) (fun d => rfl) (fun d => rfl)
  (stp := fun d e l => Kh d.1 d.2.1 d.2.2.1 d.2.2.2.1 d.2.2.2.2.1 e.1 e.2 l) (fin := fun d => Ux d.1 d.2.1 d.2.2.1 d.2.2.2.1 d.2.2.2.2.1) (fun d e l => by obtain ⟨i2, l2, c2, r3, r4, ⟨⟩⟩ := d; obtain ⟨e0, e1⟩ := e; kernel_rfl) (fun d => by obtain ⟨i2, l2, c2, r3, r4, ⟨⟩⟩ := d; kernel_rfl) (fun d k => rfl)
theorem Aew {R : Type} : Ay Tryz.prog R 79 0 pa_impl_Apply P4 co_impl_Apply_11 :=
 B6 (cfg := ⟨Ol, 0, 79, pa_impl_Apply⟩) 11 [] (fun NX X d => It  NX X d.1 d.2.1 d.2.2.1 d.2.2.2.1 d.2.2.2.2.1) (fun m d => Cq m d.1 d.2.1 d.2.2.1 d.2.2.2.1 d.2.2.2.2.1) (fun d => Gm d.1 d.2.1 d.2.2.1 d.2.2.2.1 d.2.2.2.2.1) Uy Om trivial (fun f NX d => by unfold It; simp only [Am, Ap, Ah, Option.bind_assoc, Option.bind_none, Option.bind_some]) (fun _ _ _ => by kernel_rfl)
theorem Ahr {R : Type} : Ay Tryz.prog R 79 0 pa_impl_Apply P4 co_impl_Apply_6 :=
 B6 (cfg := ⟨Ol, 0, 79, pa_impl_Apply⟩) 6 [] (fun NX X d => Jh  NX X d.1 d.2.1 d.2.2.1 d.2.2.2.1 d.2.2.2.2.1 d.2.2.2.2.2.1) (fun m d => C8 m d.1 d.2.1 d.2.2.1 d.2.2.2.1 d.2.2.2.2.1 d.2.2.2.2.2.1) (fun d => Hi d.1 d.2.1 d.2.2.1 d.2.2.2.1 d.2.2.2.2.1 d.2.2.2.2.2.1) W3 Om trivial (fun f NX d => by unfold Jh; simp only [Am, Ap, Ah, Option.bind_assoc, Option.bind_none, Option.bind_some]) (fun _ _ _ => by kernel_rfl)
theorem Am1 : Bo Tryz.prog 90 sd_impl_Apply :=
 At (pat := pa_impl_Apply) [co_impl_Apply_6, co_impl_Apply_11, co_impl_Apply_21] P4 Om ⟨Ahr, Aew, Aev, trivial⟩ Tryz.func90 (de := fun x => Ti x.1 x.2.1) (fun x r h => (Am0 x.1 x.2.1).trans h) fun _ => by kernel_rfl
def B2 (n : Int) : Int := An n
def Alt : Sig := ⟨[.rd tI], [none], [.rd tI], [none]⟩
noncomputable def sd_impl_Halves : SD := ⟨Alt, fun x => some (((B2 x.1), ()), (()))⟩
noncomputable def Ro (a0 : Int) : Option ((((Int) × Unit) × (Unit))) :=
 bif !Cg a0 8 200 then some ((0, ()), ()) else some ((IntKind.i64.wrap ((IntKind.i64.wrap (a0 - 2)).tdiv 2), ()), ())
theorem Alu (a0 : Int) : Ro a0 = some (((B2 a0), ()), (())) := by
 unfold Ro B2 An
 show (bif !E9 a0 8 200 then _ else _) = _
 cases h : E9 a0 8 200 with
 | false => rfl
 | true =>
  obtain ⟨h1, h2⟩ := Hb h
  rw [Afz h1 h2]
  rfl
theorem Rp : Bo Tryz.prog 91 sd_impl_Halves :=
 At (pat := Cr) [] Fu (Au (l := [(112, sd_impl_in)]) ⟨En, trivial⟩) trivial Tryz.func91 (de := fun x => Ro x.1) (fun x r h => (Alu x.1).trans h) fun _ => by kernel_rfl
def Aex (v n : Int) : Option ByteArray := if 0 ≤ n ∧ n ≤ 1000 then some (Cv v n.toNat) else none
def M0 (v0 v6 : Int) (r0 : List Int) : Nat := v6.toNat + 2
def Avf : Sig := ⟨[.rd tI, .rd tI], [none, none], [.rd .str], [none]⟩
noncomputable def sd_impl_be : SD := ⟨Avf, fun x => (Aex x.1 x.2.1).bind fun r => some ((r, ()), (()))⟩
noncomputable def ta_impl_be : Tb := tb []
def pa_impl_be : Nat → Pat × (Nat → Pat) := Fe [(4, ⟨[.row 5 0 5 (.int .u8)], [(0, .lf (.d tI)), (5, .lf (.row 0)), (6, .lf (.d tI))], [.row 5 (.int .u8)]⟩, [(2, ⟨[.row 5 0 5 (.int .u8)], [(5, .lf (.row 0))], [.row 5 (.int .u8)]⟩)])]
noncomputable def co_impl_be_4 : Code := (Ao (A8 Tryz.f175)).getD 0 .skip
noncomputable def M1 {R : Type}  (NX : ((Int) × (Int) × (List Int) × Unit) → Option R) (X2 : ((List Int) × Unit) → Option R) (v0 : Int) (v6 : Int) (r0 : List Int) : Option R :=
 bif decide (v6 ≥ 0) then bif decide (0 ≤ v6) then bif decide (v6 < nI r0.length) then bif decide (v6.toNat < r0.length) then NX (v0.fdiv (2 ^ min (Int.toNat 8) 64), IntKind.i64.wrap (v6 - 1), r0.set v6.toNat (IntKind.u8.wrap v0), ()) else none else none else none else X2 (r0, ())
noncomputable def I4 : Nat → (Int) → (Int) → (List Int) →  Option ((List Int) × Unit)
 | 0, _, _, _ => none
 | m + 1, v0, v6, r0 => M1  (fun d => I4 m d.1 d.2.1 d.2.2.1) (fun d => some (d)) v0 v6 r0
noncomputable def u4 (a0 : Int) (a1 : Int) : Option ((((ByteArray) × Unit) × (Unit))) :=
 bif decide (a1 = a1) then bif decide (0 ≤ a1) then bif decide (a1.toNat * 1 ≤ 140737488355328) then ((fun d => I4 (M0 d.1 d.2.1 d.2.2.1) d.1 d.2.1 d.2.2.1) (a0, IntKind.i64.wrap (a1 - 1), List.replicate a1.toNat 0, ())).bind fun val => some ((strOfNums val.1, ()), ()) else none else none else none
theorem Awz : ∀ (k m : Nat) (v : Int) (l t : List Int), l.length = k → k ≤ 1000 → k < m → I4 m v ((k : Int) - 1) (l ++ t) = some (L1 v k ++ t, ())
 | 0, m + 1, v, l, t, hl, hk, hm => by
  obtain rfl : l = [] := List.length_eq_zero_iff.1 hl
  simp only [I4, M1]
  rw [decide_eq_false (by omega)]
  rfl
 | k + 1, m + 1, v, l, t, hl, hk, hm => by
  have e : (((k + 1 : Nat) : Int) - 1) = (k : Int) := by omega
  rw [e]
  simp only [I4, M1]
  have hlen : (l ++ t).length = k + 1 + t.length := by rw [List.length_append, hl]
  rw [decide_eq_true (show (k : Int) ≥ 0 by omega), decide_eq_true (show (k : Int) < nI (l ++ t).length by simp only [nI, hlen]; omega), decide_eq_true (show Int.toNat (k : Int) < (l ++ t).length by rw [hlen]; omega), Ad (by omega) (by omega)]
  simp only [cond_true, Int.toNat_natCast]
  obtain ⟨l', x, rfl⟩ : ∃ l' x, l = l' ++ [x] := ⟨l.dropLast, l.getLast (by intro h; subst h; simp at hl), (List.dropLast_concat_getLast _).symm⟩
  have hl' : l'.length = k := by simpa using hl
  have hs : ((l' ++ [x]) ++ t).set k (IntKind.wrap IntKind.u8 v) = l' ++ (v % 256 :: t) := by
   rw [List.append_assoc, List.set_append_right _ _ (by omega), hl']
   simp only [Nat.sub_self, List.singleton_append, List.set_cons_zero]
   rfl
  rw [hs]
  have := Awz k m (v / 256) l' (v % 256 :: t) hl' (by omega) (by omega)
  have e2 : Int.fdiv v (2 ^ min (Int.toNat 8) 64) = v / 256 := by
   show Int.fdiv v 256 = v / 256
   exact Int.fdiv_eq_ediv_of_nonneg _ (by omega)
  rw [e2, this]
  simp only [L1, List.append_assoc, List.singleton_append]
theorem Avg (a0 : Int) (a1 : Int) r (h : Aex a0 a1 = some r) : u4 a0 a1 = some ((r, ()), (())) := by
 unfold Aex at h
 split at h
 ·rename_i hc
  cases h
  obtain ⟨n, rfl⟩ : ∃ n : Nat, a1 = (n : Int) := ⟨a1.toNat, by omega⟩
  unfold u4
  rw [decide_eq_true rfl, decide_eq_true hc.1, decide_eq_true (show Int.toNat (n : Int) * 1 ≤ 140737488355328 by omega), Ad (by omega) (by omega)]
  have hL := Awz n (M0 a0 ((n : Int) - 1) (List.replicate n 0)) a0 (List.replicate n 0) [] (by simp) (by omega) (by simp only [M0]; omega)
  rw [List.append_nil, List.append_nil] at hL
  exact Tk hL rfl
 ·cases h
noncomputable def Aca {R : Type} (k : Kt R) := (Iz (pa_impl_be 4) (.exit 0) 2 k)
noncomputable def Aou {R : Type} : Lt R pa_impl_be := (Ef (pat := pa_impl_be) 4 (fun d k => (I4 (M0 d.1 d.2.1 d.2.2.1) d.1 d.2.1 d.2.2.1).bind (Aca k)) Fu)
theorem Alv : As Tryz.prog ta_impl_be := Au trivial
theorem Aqq {R : Type} : Ay Tryz.prog R 24 0 pa_impl_be Aou co_impl_be_4 :=
 B6 (cfg := ⟨ta_impl_be, 0, 24, pa_impl_be⟩) 4 [] (fun NX X d => M1  NX X d.1 d.2.1 d.2.2.1) (fun m d => I4 m d.1 d.2.1 d.2.2.1) (fun d => M0 d.1 d.2.1 d.2.2.1) Aca Alv trivial (fun f NX d => by unfold M1; simp only [Am, Ap, Ah, Option.bind_assoc, Option.bind_none, Option.bind_some]) (fun _ _ _ => by kernel_rfl)
theorem V8 : Bo Tryz.prog 175 sd_impl_be :=
 At (pat := pa_impl_be) [co_impl_be_4] Aou Alv ⟨Aqq, trivial⟩ Tryz.func175 (de := fun x => u4 x.1 x.2.1) (fun x r h => Az (Avg x.1 x.2.1) h) fun _ => by kernel_rfl
def E8 (b : List Chg) : ByteArray := Ff b
def Acb : Sig := ⟨[.rd (.sl Du)], [none], [.rd .str], [none]⟩
noncomputable def sd_impl_FormBatch : SD := ⟨Acb, fun x => some (((E8 x.1), ()), (()))⟩
noncomputable def M2 : Tb := ⟨tbF [(89, sd_impl_ValidBatch), (175, sd_impl_be)], fun f => if f = 174 then some Tryz.f174 else none, some (214, 197), some (176, 197, 5), none⟩
def pa_impl_FormBatch : Nat → Pat × (Nat → Pat) := Fe [(6, ⟨[.sl 9 0 Du, .self 3 0, .boxRow 3 1 5 (.int .u8)], [(3, .lf (.ptr 0 0)), (9, .lf (.d (.sl Du))), (10, .lf (.d tI)), (11, .lf (.d tI))], [.box 197 [.sp 0, .row 1], .row 5 (.int .u8)]⟩, [(2, ⟨[.self 3 0, .boxRow 3 1 5 (.int .u8)], [(3, .lf (.ptr 0 0))], [.box 197 [.sp 0, .row 1], .row 5 (.int .u8)]⟩)])]
noncomputable def co_impl_FormBatch_6 : Code := (Ao (A8 Tryz.f94)).getD 0 .skip
def Gc (v9 : List Chg) (v10 : Int) (v11 : Int) (r1 : List Int) : Nat := (v10 - v11).toNat + 1
noncomputable def Gd {R : Type}  (NX : ((List Chg) × (Int) × (Int) × (List Int) × Unit) → Option R) (X2 : ((List Int) × Unit) → Option R) (v9 : List Chg) (v10 : Int) (v11 : Int) (r1 : List Int) : Option R :=
 bif decide (v11 < v10) then bif decide (0 ≤ v11) then bif decide (v11 < nI v9.length) then bif (v9.getD v11.toNat (ByteArray.mk #[], ByteArray.mk #[], false, ())).2.2.1 then bif decide ((ByteArray.mk #[1] ++ Cv (nI (ByteArray.size (v9.getD v11.toNat (ByteArray.mk #[], ByteArray.mk #[], false, ())).1)) (Int.toNat 1)).size + ByteArray.size (v9.getD v11.toNat (ByteArray.mk #[], ByteArray.mk #[], false, ())).1 ≤ 9223372036854775807) then bif decide (r1.length + (ByteArray.mk #[1] ++ Cv (nI (ByteArray.size (v9.getD v11.toNat (ByteArray.mk #[], ByteArray.mk #[], false, ())).1)) (Int.toNat 1) ++ (v9.getD v11.toNat (ByteArray.mk #[], ByteArray.mk #[], false, ())).1).size ≤ 140737488355328) then NX (v9, v10, IntKind.i64.wrap (v11 + 1), r1 ++ Aa (ByteArray.mk #[1] ++ Cv (nI (ByteArray.size (v9.getD v11.toNat (ByteArray.mk #[], ByteArray.mk #[], false, ())).1)) (Int.toNat 1) ++ (v9.getD v11.toNat (ByteArray.mk #[], ByteArray.mk #[], false, ())).1), ()) else none else none else bif decide ((ByteArray.mk #[0] ++ Cv (nI (ByteArray.size (v9.getD v11.toNat (ByteArray.mk #[], ByteArray.mk #[], false, ())).1)) (Int.toNat 1)).size + ByteArray.size (v9.getD v11.toNat (ByteArray.mk #[], ByteArray.mk #[], false, ())).1 ≤ 9223372036854775807) then bif decide ((ByteArray.mk #[0] ++ Cv (nI (ByteArray.size (v9.getD v11.toNat (ByteArray.mk #[], ByteArray.mk #[], false, ())).1)) (Int.toNat 1) ++ (v9.getD v11.toNat (ByteArray.mk #[], ByteArray.mk #[], false, ())).1).size + (Cv (nI (ByteArray.size (v9.getD v11.toNat (ByteArray.mk #[], ByteArray.mk #[], false, ())).2.1)) (Int.toNat 1)).size ≤ 9223372036854775807) then bif decide ((ByteArray.mk #[0] ++ Cv (nI (ByteArray.size (v9.getD v11.toNat (ByteArray.mk #[], ByteArray.mk #[], false, ())).1)) (Int.toNat 1) ++ (v9.getD v11.toNat (ByteArray.mk #[], ByteArray.mk #[], false, ())).1 ++ Cv (nI (ByteArray.size (v9.getD v11.toNat (ByteArray.mk #[], ByteArray.mk #[], false, ())).2.1)) (Int.toNat 1)).size + ByteArray.size (v9.getD v11.toNat (ByteArray.mk #[], ByteArray.mk #[], false, ())).2.1 ≤ 9223372036854775807) then bif decide (r1.length + (ByteArray.mk #[0] ++ Cv (nI (ByteArray.size (v9.getD v11.toNat (ByteArray.mk #[], ByteArray.mk #[], false, ())).1)) (Int.toNat 1) ++ (v9.getD v11.toNat (ByteArray.mk #[], ByteArray.mk #[], false, ())).1 ++ Cv (nI (ByteArray.size (v9.getD v11.toNat (ByteArray.mk #[], ByteArray.mk #[], false, ())).2.1)) (Int.toNat 1) ++ (v9.getD v11.toNat (ByteArray.mk #[], ByteArray.mk #[], false, ())).2.1).size ≤ 140737488355328) then NX (v9, v10, IntKind.i64.wrap (v11 + 1), r1 ++ Aa (ByteArray.mk #[0] ++ Cv (nI (ByteArray.size (v9.getD v11.toNat (ByteArray.mk #[], ByteArray.mk #[], false, ())).1)) (Int.toNat 1) ++ (v9.getD v11.toNat (ByteArray.mk #[], ByteArray.mk #[], false, ())).1 ++ Cv (nI (ByteArray.size (v9.getD v11.toNat (ByteArray.mk #[], ByteArray.mk #[], false, ())).2.1)) (Int.toNat 1) ++ (v9.getD v11.toNat (ByteArray.mk #[], ByteArray.mk #[], false, ())).2.1), ()) else none else none else none else none else none else none else X2 (r1, ())
noncomputable def Bh : Nat → (List Chg) → (Int) → (Int) → (List Int) →  Option ((List Int) × Unit)
 | 0, _, _, _, _ => none
 | m + 1, v9, v10, v11, r1 => Gd  (fun d => Bh m d.1 d.2.1 d.2.2.1 d.2.2.2.1) (fun d => some (d)) v9 v10 v11 r1
noncomputable def M3 (a0 : List Chg) : Option ((((ByteArray) × Unit) × (Unit))) :=
 bif !F0 a0 then some ((ByteArray.mk #[], ()), ()) else ((fun d => Bh (Gc d.1 d.2.1 d.2.2.1 d.2.2.2.1) d.1 d.2.1 d.2.2.1 d.2.2.2.1) (a0, nI a0.length, 0, [], ())).bind fun val => bif D6 val.1 then some ((strOfNums val.1, ()), ()) else none
theorem Acc (a0 : List Chg) : M3 a0 = some ((E8 a0, ()), (())) := by
 unfold M3 E8 Ff
 show (bif !Bd a0 then _ else _) = _
 cases hv : Bd a0 with
 | false => rfl
 | true =>
  obtain ⟨hlen, hok⟩ := Oi hv
  have hL := Zl a0.length Aj4 (fun i r => r ++ P0 (a0.getD i zC)) (g := fun m i r => Bh m a0 (nI a0.length) i r) (ok := fun r => (r, ())) (fun m i r hi hr => by
   show Bh (m + 1) a0 (nI a0.length) i r = _
   simp only [Bh, Gd]
   have hc := hok i hi
   obtain ⟨k1, k2, k3⟩ := Zm hc
   rw [Ou hi, F2, wI (show i < 4611686018427387904 by omega), Int.toNat_natCast]
   show (bif (a0.getD i zC).2.2.1 then (bif decide (ByteArray.size (ByteArray.mk #[1] ++ Cv (nI (ByteArray.size (a0.getD i zC).1)) 1) + ByteArray.size (a0.getD i zC).1 ≤ 9223372036854775807) then (bif decide (List.length r + ByteArray.size (ByteArray.mk #[1] ++ Cv (nI (ByteArray.size (a0.getD i zC).1)) 1 ++ (a0.getD i zC).1) ≤ 140737488355328) then Bh m a0 (nI a0.length) ((i + 1 : Nat) : Int) (r ++ Aa (ByteArray.mk #[1] ++ Cv (nI (ByteArray.size (a0.getD i zC).1)) 1 ++ (a0.getD i zC).1)) else none) else none) else (bif decide (ByteArray.size (ByteArray.mk #[0] ++ Cv (nI (ByteArray.size (a0.getD i zC).1)) 1) + ByteArray.size (a0.getD i zC).1 ≤ 9223372036854775807) then (bif decide (ByteArray.size (ByteArray.mk #[0] ++ Cv (nI (ByteArray.size (a0.getD i zC).1)) 1 ++ (a0.getD i zC).1) + ByteArray.size (Cv (nI (ByteArray.size (a0.getD i zC).2.1)) 1) ≤ 9223372036854775807) then (bif decide (ByteArray.size (ByteArray.mk #[0] ++ Cv (nI (ByteArray.size (a0.getD i zC).1)) 1 ++ (a0.getD i zC).1 ++ Cv (nI (ByteArray.size (a0.getD i zC).2.1)) 1) + ByteArray.size (a0.getD i zC).2.1 ≤ 9223372036854775807) then (bif decide (List.length r + ByteArray.size (ByteArray.mk #[0] ++ Cv (nI (ByteArray.size (a0.getD i zC).1)) 1 ++ (a0.getD i zC).1 ++ Cv (nI (ByteArray.size (a0.getD i zC).2.1)) 1 ++ (a0.getD i zC).2.1) ≤ 140737488355328) then Bh m a0 (nI a0.length) ((i + 1 : Nat) : Int) (r ++ Aa (ByteArray.mk #[0] ++ Cv (nI (ByteArray.size (a0.getD i zC).1)) 1 ++ (a0.getD i zC).1 ++ Cv (nI (ByteArray.size (a0.getD i zC).2.1)) 1 ++ (a0.getD i zC).2.1)) else none) else none) else none) else none)) = Bh m a0 (nI a0.length) ((i + 1 : Nat) : Int) (r ++ P0 (a0.getD i zC))
   have hr1 := hr.1
   generalize a0.getD i zC = c at *
   have o1 : Aa (ByteArray.mk #[1]) = [1] := rfl
   have o0 : Aa (ByteArray.mk #[0]) = [0] := rfl
   have s1 : ByteArray.size (ByteArray.mk #[1]) = 1 := rfl
   have s0 : ByteArray.size (ByteArray.mk #[0]) = 1 := rfl
   simp only [Lx, Aso _ (show c.1.size < 256 by omega), Aso _ (show c.2.1.size < 256 by omega), o1, o0, ByteArray.size_append, Ii, s1, s0]
   rw [decide_eq_true (show 1 + 1 + c.1.size ≤ 9223372036854775807 by omega), decide_eq_true (show r.length + (1 + 1 + c.1.size) ≤ 140737488355328 by omega), decide_eq_true (show 1 + 1 + c.1.size + 1 ≤ 9223372036854775807 by omega), decide_eq_true (show 1 + 1 + c.1.size + 1 + c.2.1.size ≤ 9223372036854775807 by omega), decide_eq_true (show r.length + (1 + 1 + c.1.size + 1 + c.2.1.size) ≤ 140737488355328 by omega)]
   unfold P0
   cases c.2.2.1 <;> rfl) (fun m r _ => by
   show Bh (m + 1) a0 (nI a0.length) (a0.length : Int) r = _
   simp only [Bh, Gd]
   rw [I0]
   rfl) (fun i r hi hr => hr.step (hok i hi)) a0.length (Gc a0 (nI a0.length) 0 []) 0 [] (by omega) (by simp [Gc, nI]) ⟨by simp, rfl⟩
  have hB := Asp hok a0.length 0 [] (by omega) ⟨by simp, rfl⟩
  rw [Aj3 P0 zC a0 a0.length 0 [] (by omega), List.nil_append, List.drop_zero] at hL hB
  refine Tk hL ?_
  show (bif D6 (F1 a0) then some ((strOfNums (F1 a0), ()), ()) else none) = _
  have : D6 (F1 a0) = true := hB.2
  rw [this]
  rfl
noncomputable def Pp {R : Type} (k : Kt R) := (Iz (pa_impl_FormBatch 6) (.exit 0) 2 k)
noncomputable def Uz {R : Type} : Lt R pa_impl_FormBatch := (Ef (pat := pa_impl_FormBatch) 6 (fun d k => (Bh (Gc d.1 d.2.1 d.2.2.1 d.2.2.2.1) d.1 d.2.1 d.2.2.1 d.2.2.2.1).bind (Pp k)) Fu)
theorem Sx : As Tryz.prog M2 where
 sd := Apx (l := [(89, sd_impl_ValidBatch), (175, sd_impl_be)]) ⟨Lm, V8, trivial⟩
 inl := fun f fn h => by
  simp only [M2] at h
  split at h
  ·rename_i e; subst e; cases h; exact ⟨Tryz.func174, by kernel_rfl, by kernel_rfl⟩
  cases h
 cc := fun f BT h => by cases h; exact ⟨⟨_, Tryz.func214, by kernel_rfl, by kernel_rfl⟩, A06⟩
 st := fun f BT e h => by cases h; exact ⟨⟨_, Tryz.func176, by kernel_rfl, by kernel_rfl⟩, A07⟩
 srt := fun fs fc BT U e h => by cases h
theorem Zx {R : Type} : Ay Tryz.prog R 45 0 pa_impl_FormBatch Uz co_impl_FormBatch_6 :=
 B6 (cfg := ⟨M2, 0, 45, pa_impl_FormBatch⟩) 6 [] (fun NX X d => Gd  NX X d.1 d.2.1 d.2.2.1 d.2.2.2.1) (fun m d => Bh m d.1 d.2.1 d.2.2.1 d.2.2.2.1) (fun d => Gc d.1 d.2.1 d.2.2.1 d.2.2.2.1) Pp Sx trivial (fun f NX d => by unfold Gd; simp only [Am, Ap, Ah, Option.bind_assoc, Option.bind_none, Option.bind_some]) (fun _ _ _ => by kernel_rfl)
theorem Sy : Bo Tryz.prog 94 sd_impl_FormBatch :=
 At (pat := pa_impl_FormBatch) [co_impl_FormBatch_6] Uz Sx ⟨Zx, trivial⟩ Tryz.func94 (de := fun x => M3 x.1) (fun x r h => (Acc x.1).trans h) fun _ => by kernel_rfl
def Ew (s : Stt) : List (List Chg) := Cy s
def Aey : Sig := ⟨[.rd Py], [some 1], [.rd (.sl (.sl Du))], [none]⟩
noncomputable def sd_impl_Snapshot : SD := ⟨Aey, fun x => some (((Ew x.1), ()), (()))⟩
noncomputable def ta_impl_Snapshot : Tb := tb [(156, sd_impl_ValidState)]
def pa_impl_Snapshot : Nat → Pat × (Nat → Pat) := Fe [(6, ⟨[.last 3 131 Du, .sl 10 0 Aq], [(3, .lf (.row 0)), (10, .lf (.d (.sl Aq))), (11, .lf (.d tI)), (12, .lf (.d tI))], [.last 59 Du 1, .row 131 Du]⟩, [(2, ⟨[.last 3 131 Du], [(3, .lf (.row 0))], [.last 59 Du 1, .row 131 Du]⟩)])]
noncomputable def co_impl_Snapshot_6 : Code := (Ao (A8 Tryz.f172)).getD 0 .skip
def D1 (v10 : List Pr2) (v11 : Int) (v12 : Int) (r0 : List (List Chg)) (c0 : Bool) (r1 : List Chg) : Nat := (v11 - v12).toNat + 1
noncomputable def G7 {R : Type}  (NX : ((List Pr2) × (Int) × (Int) × (List (List Chg)) × (Bool) × (List Chg) × Unit) → Option R) (X2 : ((List (List Chg)) × (Bool) × (List Chg) × Unit) → Option R) (v10 : List Pr2) (v11 : Int) (v12 : Int) (r0 : List (List Chg)) (c0 : Bool) (r1 : List Chg) : Option R :=
 bif decide (v12 < v11) then bif decide (0 ≤ v12) then bif decide (v12 < nI v10.length) then bif v12.tmod 20 == 0 then bif decide ((r0.length + c0.toNat + 1) * 24 ≤ 140737488355328) then bif decide (0 ≤ IntKind.i64.wrap (nI ((bif c0 then r0 ++ [r1] else r0).length + true.toNat) - 1)) then bif decide (IntKind.i64.wrap (nI ((bif c0 then r0 ++ [r1] else r0).length + true.toNat) - 1) < nI ((bif c0 then r0 ++ [r1] else r0).length + true.toNat)) then bif decide ((IntKind.i64.wrap (nI ((bif c0 then r0 ++ [r1] else r0).length + true.toNat) - 1)).toNat = (bif c0 then r0 ++ [r1] else r0).length) then bif decide (0 ≤ IntKind.i64.wrap (nI ((bif c0 then r0 ++ [r1] else r0).length + true.toNat) - 1)) then bif decide (IntKind.i64.wrap (nI ((bif c0 then r0 ++ [r1] else r0).length + true.toNat) - 1) < nI ((bif c0 then r0 ++ [r1] else r0).length + true.toNat)) then bif decide ((IntKind.i64.wrap (nI ((bif c0 then r0 ++ [r1] else r0).length + true.toNat) - 1)).toNat = (bif c0 then r0 ++ [r1] else r0).length) then NX (v10, v11, IntKind.i64.wrap (v12 + 1), bif c0 then r0 ++ [r1] else r0, true, [] ++ [((v10.getD v12.toNat (ByteArray.mk #[], ByteArray.mk #[], ())).1, (v10.getD v12.toNat (ByteArray.mk #[], ByteArray.mk #[], ())).2.1, false, ())], ()) else none else none else none else none else none else none else none else bif decide (0 ≤ IntKind.i64.wrap (nI (r0.length + c0.toNat) - 1)) then bif decide (IntKind.i64.wrap (nI (r0.length + c0.toNat) - 1) < nI (r0.length + c0.toNat)) then bif c0 then bif decide ((IntKind.i64.wrap (nI (r0.length + c0.toNat) - 1)).toNat = r0.length) then bif decide ((r1.length + [((v10.getD v12.toNat (ByteArray.mk #[], ByteArray.mk #[], ())).1, (v10.getD v12.toNat (ByteArray.mk #[], ByteArray.mk #[], ())).2.1, false, ())].length) * 40 ≤ 140737488355328) then bif decide (0 ≤ IntKind.i64.wrap (nI (r0.length + c0.toNat) - 1)) then bif decide (IntKind.i64.wrap (nI (r0.length + c0.toNat) - 1) < nI (r0.length + c0.toNat)) then bif c0 then bif decide ((IntKind.i64.wrap (nI (r0.length + c0.toNat) - 1)).toNat = r0.length) then NX (v10, v11, IntKind.i64.wrap (v12 + 1), r0, c0, r1 ++ [((v10.getD v12.toNat (ByteArray.mk #[], ByteArray.mk #[], ())).1, (v10.getD v12.toNat (ByteArray.mk #[], ByteArray.mk #[], ())).2.1, false, ())], ()) else none else none else none else none else none else none else none else none else none else none else none else X2 (r0, c0, r1, ())
noncomputable def B0 : Nat → (List Pr2) → (Int) → (Int) → (List (List Chg)) → (Bool) → (List Chg) →  Option ((List (List Chg)) × (Bool) × (List Chg) × Unit)
 | 0, _, _, _, _, _, _ => none
 | m + 1, v10, v11, v12, r0, c0, r1 => G7  (fun d => B0 m d.1 d.2.1 d.2.2.1 d.2.2.2.1 d.2.2.2.2.1 d.2.2.2.2.2.1) (fun d => some (d)) v10 v11 v12 r0 c0 r1
noncomputable def N7 (a0 : Stt) : Option ((((List (List Chg)) × Unit) × (Unit))) :=
 bif !H0 a0 then some (([], ()), ()) else ((fun d => B0 (D1 d.1 d.2.1 d.2.2.1 d.2.2.2.1 d.2.2.2.2.1 d.2.2.2.2.2.1) d.1 d.2.1 d.2.2.1 d.2.2.2.1 d.2.2.2.2.1 d.2.2.2.2.2.1) (a0.1, nI (List.length a0.1), 0, [], false, [], ())).bind fun val => some ((bif val.2.1 then val.1 ++ [val.2.2.1] else val.1, ()), ())
theorem Aez (a0 : Stt) : N7 a0 = some (((Ew a0), ()), (())) := by
 unfold N7 Ew Cy
 show (bif !Bf a0 then _ else _) = _
 cases hv : Bf a0 with
 | false => rfl
 | true =>
  have hl := Fh hv
  have hL := E4 (xs := a0.1) zP Aoj Oq (g := fun m i s => B0 m a0.1 (nI a0.1.length) i s.1 s.2.1 s.2.2) (ok := fun s => (s.1, s.2.1, s.2.2, ())) (fun m i s hi hI => by
   show B0 (m + 1) a0.1 (nI a0.1.length) i s.1 s.2.1 s.2.2 = _
   obtain ⟨r0, c0, r1⟩ := s
   obtain ⟨h1, h2, h3, h4⟩ := hI
   simp only at h2 h3 h4 ⊢
   simp only [B0, G7]
   rw [Ou hi, F2, wI (show i < 4611686018427387904 by omega), Int.toNat_natCast, Azv]
   unfold Oq
   cases hc : (i % 20 == 0)
   ·have hp : 0 < i := Nat.pos_of_ne_zero fun q => by subst q; cases hc
    have hc0 := h3 hp
    subst hc0
    have e1 := Ap1 r0.length (by omega)
    have e2 : decide ((r0.length : Int) < nI (r0.length + 1)) = true := Ou (Nat.lt_succ_self _)
    have e3 : decide ((r1.length + 1) * 40 ≤ 140737488355328) = true := decide_eq_true (by omega)
    simp only [Bool.toNat_true, List.length_singleton, cond_true, cond_false, e1, e2, e3, F2, Int.toNat_natCast, decide_true]
    rfl
   ·have hL : List.length (bif c0 then r0 ++ [r1] else r0) ≤ i + 1 := by cases c0 <;> simp <;> omega
    have e1 := Ap1 (List.length (bif c0 then r0 ++ [r1] else r0)) (by omega)
    have e2 : decide (((List.length (bif c0 then r0 ++ [r1] else r0) : Nat) : Int) < nI (List.length (bif c0 then r0 ++ [r1] else r0) + 1)) = true := Ou (Nat.lt_succ_self _)
    have e3 : decide ((r0.length + Bool.toNat c0 + 1) * 24 ≤ 140737488355328) = true := decide_eq_true (by cases c0 <;> simp <;> omega)
    simp only [Bool.toNat_true, cond_true, e1, e2, e3, F2, Int.toNat_natCast, decide_true]
    rfl) (fun i s hi hI => hI.step (by omega) _) (fun m s hI => by
   show B0 (m + 1) a0.1 (nI a0.1.length) (a0.1.length : Int) s.1 s.2.1 s.2.2 = _
   simp only [B0, G7]
   rw [I0]
   rfl) (D1 a0.1 (nI a0.1.length) 0 [] false []) 0 ([], false, []) (by omega) (by simp [D1, nI]) ⟨by omega, by simp, fun q => by omega, by simp⟩
  have hL' : B0 (D1 a0.1 (nI a0.1.length) 0 [] false []) a0.1 (nI a0.1.length) 0 [] false [] = _ := hL
  show (B0 (D1 a0.1 (nI a0.1.length) 0 [] false []) a0.1 (nI a0.1.length) 0 [] false []).bind _ = _
  rw [hL']
  rfl
noncomputable def Rq {R : Type} (k : Kt R) := (Iz (pa_impl_Snapshot 6) (.exit 0) 2 k)
noncomputable def W4 {R : Type} : Lt R pa_impl_Snapshot := (Ef (pat := pa_impl_Snapshot) 6 (fun d k => (B0 (D1 d.1 d.2.1 d.2.2.1 d.2.2.2.1 d.2.2.2.2.1 d.2.2.2.2.2.1) d.1 d.2.1 d.2.2.1 d.2.2.2.1 d.2.2.2.2.1 d.2.2.2.2.2.1).bind (Rq k)) Fu)
theorem U0 : As Tryz.prog ta_impl_Snapshot := Au ⟨Rn, trivial⟩
theorem u6 {R : Type} : Ay Tryz.prog R 43 0 pa_impl_Snapshot W4 co_impl_Snapshot_6 :=
 B6 (cfg := ⟨ta_impl_Snapshot, 0, 43, pa_impl_Snapshot⟩) 6 [] (fun NX X (d : (List Pr2) × (Int) × (Int) × (List (List Chg)) × (Bool) × (List Chg) × Unit) => G7  NX X d.1 d.2.1 d.2.2.1 d.2.2.2.1 d.2.2.2.2.1 d.2.2.2.2.2.1) (fun m d => B0 m d.1 d.2.1 d.2.2.1 d.2.2.2.1 d.2.2.2.2.1 d.2.2.2.2.2.1) (fun d => D1 d.1 d.2.1 d.2.2.1 d.2.2.2.1 d.2.2.2.2.1 d.2.2.2.2.2.1) Rq U0 trivial (fun f NX (d : (List Pr2) × (Int) × (Int) × (List (List Chg)) × (Bool) × (List Chg) × Unit) => by unfold G7; simp only [Am, Ap, Ah, Option.bind_assoc, Option.bind_none, Option.bind_some]) (fun _ _ _ => by kernel_rfl)
theorem U1 : Bo Tryz.prog 172 sd_impl_Snapshot :=
 At (pat := pa_impl_Snapshot) [co_impl_Snapshot_6] W4 U0 ⟨u6, trivial⟩ Tryz.func172 (de := fun x => N7 x.1) (fun x r h => (Aez x.1).trans h) fun _ => by kernel_rfl
def Aqr : Sig := ⟨[.rd tI], [none], [.rd tI], [none]⟩
noncomputable def Acd (a0 : Int) : Option ((((Int) × Unit) × (Unit))) :=
 some ((IntKind.i64.wrap (IntKind.i64.wrap (64 - a0) - 8), ()), ())
noncomputable def sd_impl_room : SD := ⟨Aqr, fun x => Acd x.1⟩
theorem P5 : Bo Tryz.prog 157 sd_impl_room :=
 At (pat := Cr) [] Fu (Au (l := []) trivial) trivial Tryz.func157 (de := fun x => Acd x.1) (fun x r h => h) fun _ => by kernel_rfl
def I5 (s : ByteArray) (w : Int) : Option Int := if s.size ≤ 1099511627776 then some (Eg s.size w) else none
def Am2 : Sig := ⟨[.rd .str, .rd tI], [none, none], [.rd tI], [none]⟩
noncomputable def sd_impl_Pages : SD := ⟨Am2, fun x => (I5 x.1 x.2.1).bind fun r => some ((r, ()), (()))⟩
noncomputable def Tj (a0 : ByteArray) (a1 : Int) : Option ((((Int) × Unit) × (Unit))) :=
 bif !Cg a1 1 8 then some ((0, ()), ()) else bif !decide (IntKind.i64.wrap (IntKind.i64.wrap (64 - a1) - 8) = 0) then some ((if IntKind.i64.wrap ((IntKind.i64.wrap (IntKind.i64.wrap (nI a0.size + IntKind.i64.wrap (IntKind.i64.wrap (64 - a1) - 8)) - 1)).tdiv (IntKind.i64.wrap (IntKind.i64.wrap (64 - a1) - 8))) > 1 then IntKind.i64.wrap ((IntKind.i64.wrap (IntKind.i64.wrap (nI a0.size + IntKind.i64.wrap (IntKind.i64.wrap (64 - a1) - 8)) - 1)).tdiv (IntKind.i64.wrap (IntKind.i64.wrap (64 - a1) - 8))) else 1, ()), ()) else none
theorem Am3 (a0 : ByteArray) (a1 : Int) r (h : I5 a0 a1 = some r) : Tj a0 a1 = some ((r, ()), (())) := by
 unfold I5 at h
 split at h
 ·rename_i hc
  cases h
  unfold Tj Eg
  show (bif !E9 a1 1 8 then _ else _) = _
  cases hw : E9 a1 1 8 with
  | false => rfl
  | true =>
   have k1 := (Hb hw).1
   have k2 := (Hb hw).2
   have hq : 0 ≤ ((a0.size : Int) + (56 - a1) - 1) / (56 - a1) := Int.ediv_nonneg (by omega) (by omega)
   have hq2 : ((a0.size : Int) + (56 - a1) - 1) / (56 - a1) ≤ (a0.size : Int) + (56 - a1) - 1 := Int.ediv_le_self _ (by omega)
   rw [Ad (n := 64 - a1) (by omega) (by omega), Ad (n := 64 - a1 - 8) (by omega) (by omega), show 64 - a1 - 8 = 56 - a1 by omega]
   simp only [nI]
   rw [Ad (n := (a0.size : Int) + (56 - a1)) (by omega) (by omega), Ad (n := (a0.size : Int) + (56 - a1) - 1) (by omega) (by omega), Int.tdiv_eq_ediv_of_nonneg (by omega), Ad (n := ((a0.size : Int) + (56 - a1) - 1) / (56 - a1)) (by omega) (by omega), decide_eq_false (show ¬ (56 - a1 = 0) by omega)]
   rfl
 ·cases h
theorem g9 : Bo Tryz.prog 173 sd_impl_Pages :=
 At (pat := Cr) [] Fu (Au (l := [(112, sd_impl_in), (157, sd_impl_room)]) ⟨En, P5, trivial⟩) trivial Tryz.func173 (de := fun x => Tj x.1 x.2.1) (fun x r h => Az (Am3 x.1 x.2.1) h) fun _ => by kernel_rfl
def Sz (s : Stt) (w : Int) : Int := R9 s w
def Aqs : Sig := ⟨[.rd Py, .rd tI], [some 1, none], [.rd tI], [none]⟩
noncomputable def sd_impl_Room : SD := ⟨Aqs, fun x => some (((Sz x.1 x.2.1), ()), (()))⟩
noncomputable def ta_impl_Room : Tb := tb [(94, sd_impl_FormBatch), (112, sd_impl_in), (172, sd_impl_Snapshot), (173, sd_impl_Pages)]
def pa_impl_Room : Nat → Pat × (Nat → Pat) := Fe [(6, ⟨[.sl 12 0 (.sl Du)], [(1, .lf (.d tI)), (5, .lf (.d tI)), (12, .lf (.d (.sl (.sl Du)))), (13, .lf (.d tI)), (14, .lf (.d tI))], []⟩, [(2, ⟨[], [(5, .lf (.d tI))], []⟩)])]
noncomputable def co_impl_Room_6 : Code := (Ao (A8 Tryz.f92)).getD 0 .skip
def G8 (v1 : Int) (v5 : Int) (v12 : List (List Chg)) (v13 : Int) (v14 : Int) : Nat := (v13 - v14).toNat + 1
noncomputable def J4 {R : Type}  (NX : ((Int) × (Int) × (List (List Chg)) × (Int) × (Int) × Unit) → Option R) (X2 : ((Int) × Unit) → Option R) (v1 : Int) (v5 : Int) (v12 : List (List Chg)) (v13 : Int) (v14 : Int) : Option R :=
 bif decide (v14 < v13) then bif decide (0 ≤ v14) then bif decide (v14 < nI v12.length) then ((I5 (E8 (v12.getD v14.toNat [])) v1).bind fun val => some ((val, ()), ())).bind fun val => NX (v1, IntKind.i64.wrap (v5 + val.1.1), v12, v13, IntKind.i64.wrap (v14 + 1), ()) else none else none else X2 (v5, ())
noncomputable def C4 : Nat → (Int) → (Int) → (List (List Chg)) → (Int) → (Int) →  Option ((Int) × Unit)
 | 0, _, _, _, _, _ => none
 | m + 1, v1, v5, v12, v13, v14 => J4  (fun d => C4 m d.1 d.2.1 d.2.2.1 d.2.2.2.1 d.2.2.2.2.1) (fun d => some (d)) v1 v5 v12 v13 v14
noncomputable def V9 (a0 : Stt) (a1 : Int) : Option ((((Int) × Unit) × (Unit))) :=
 bif !Cg a1 1 8 then some ((0, ()), ()) else ((fun d => C4 (G8 d.1 d.2.1 d.2.2.1 d.2.2.2.1 d.2.2.2.2.1) d.1 d.2.1 d.2.2.1 d.2.2.2.1 d.2.2.2.2.1) (a1, 0, Ew a0, nI (Ew a0).length, 0, ())).bind fun val => some (val, ())
theorem Aqt (a0 : Stt) (a1 : Int) : V9 a0 a1 = some (((Sz a0 a1), ()), (())) := by
 unfold V9 Sz
 show (bif !E9 a1 1 8 then _ else _) = _
 cases hw : E9 a1 1 8 with
 | false => unfold R9; rw [hw]; rfl
 | true =>
  have hl := P9 a0
  have hL := E4 (xs := Cy a0) [] Axy (fun _ b a => a + Eg (Ff b).size a1) (g := fun m i a => C4 m a1 a (Cy a0) (nI (Cy a0).length) i) (ok := fun a => (a, ())) (fun m i a hi hI => by
   show C4 (m + 1) a1 a (Cy a0) (nI (Cy a0).length) i = _
   simp only [C4, J4]
   rw [Ou hi, F2, wI (show i < 4611686018427387904 by omega), Int.toNat_natCast]
   have e1 : I5 (E8 (List.getD (Cy a0) i [])) a1 = some (Eg (Ff (List.getD (Cy a0) i [])).size a1) := if_pos (Nat.le_trans (Lg _) (by decide))
   rw [e1]
   simp only [cond_true, Option.bind_some]
   rw [Aj6 hI]) (fun i a hi hI => hI.step (by omega) _ _) (fun m a hI => by
   show C4 (m + 1) a1 a (Cy a0) (nI (Cy a0).length) ((Cy a0).length : Int) = _
   simp only [C4, J4]
   rw [I0]
   rfl) (G8 a1 0 (Cy a0) (nI (Cy a0).length) 0) 0 0 (by omega) (by simp [G8, nI]) ⟨by omega, by omega, by omega⟩
  have hL' : C4 (G8 a1 0 (Cy a0) (nI (Cy a0).length) 0) a1 0 (Cy a0) (nI (Cy a0).length) 0 = _ := hL
  show (C4 (G8 a1 0 (Cy a0) (nI (Cy a0).length) 0) a1 0 (Cy a0) (nI (Cy a0).length) 0).bind _ = _
  rw [hL', Ads, List.drop_zero, Asx, Int.zero_add]
  rfl
noncomputable def Yz {R : Type} (k : Kt R) := (Iz (pa_impl_Room 6) (.exit 0) 2 k)
noncomputable def Agc {R : Type} : Lt R pa_impl_Room := (Ef (pat := pa_impl_Room) 6 (fun d k => (C4 (G8 d.1 d.2.1 d.2.2.1 d.2.2.2.1 d.2.2.2.2.1) d.1 d.2.1 d.2.2.1 d.2.2.2.1 d.2.2.2.2.1).bind (Yz k)) Fu)
theorem Ace : As Tryz.prog ta_impl_Room := Au ⟨Sy, En, U1, g9, trivial⟩
theorem Alw {R : Type} : Ay Tryz.prog R 26 0 pa_impl_Room Agc co_impl_Room_6 :=
 B6 (cfg := ⟨ta_impl_Room, 0, 26, pa_impl_Room⟩) 6 [] (fun NX X d => J4  NX X d.1 d.2.1 d.2.2.1 d.2.2.2.1 d.2.2.2.2.1) (fun m d => C4 m d.1 d.2.1 d.2.2.1 d.2.2.2.1 d.2.2.2.2.1) (fun d => G8 d.1 d.2.1 d.2.2.1 d.2.2.2.1 d.2.2.2.2.1) Yz Ace trivial (fun f NX d => by unfold J4; simp only [Am, Ap, Ah, Option.bind_assoc, Option.bind_none, Option.bind_some]) (fun _ _ _ => by kernel_rfl)
theorem Aqu : Bo Tryz.prog 92 sd_impl_Room :=
 At (pat := pa_impl_Room) [co_impl_Room_6] Agc Ace ⟨Alw, trivial⟩ Tryz.func92 (de := fun x => V9 x.1 x.2.1) (fun x r h => (Aqt x.1 x.2.1).trans h) fun _ => by kernel_rfl
def Cx (h n : Int) : Int := IntKind.i64.wrap (2 + IntKind.i64.wrap (h * B2 n))
def Am4 : Sig := ⟨[.rd tI, .rd tI], [none, none], [.rd tI], [none]⟩
noncomputable def sd_impl_begin : SD := ⟨Am4, fun x => some (((Cx x.1 x.2.1), ()), (()))⟩
noncomputable def h9 (a0 : Int) (a1 : Int) : Option ((((Int) × Unit) × (Unit))) :=
 some ((IntKind.i64.wrap (2 + IntKind.i64.wrap (a0 * B2 a1)), ()), ())
theorem Am5 (a0 : Int) (a1 : Int) : h9 a0 a1 = some (((Cx a0 a1), ()), (())) := rfl
theorem i6 : Bo Tryz.prog 95 sd_impl_begin :=
 At (pat := Cr) [] Fu (Au (l := [(91, sd_impl_Halves)]) ⟨Rp, trivial⟩) trivial Tryz.func95 (de := fun x => h9 x.1 x.2.1) (fun x r h => (Am5 x.1 x.2.1).trans h) fun _ => by kernel_rfl
def Gn (d : Dk) : Bool := B8 d
def Acf : Sig := ⟨[.rd yDk], [some 2], [.rd .bool], [none]⟩
noncomputable def sd_impl_ValidDisk : SD := ⟨Acf, fun x => some (((Gn x.1), ()), (()))⟩
noncomputable def ta_impl_ValidDisk : Tb := tb [(112, sd_impl_in)]
def pa_impl_ValidDisk : Nat → Pat × (Nat → Pat) := Fe [(5, ⟨[.sl 19 0 .str, .boxSl 1 0 .str, .boxSl 1 1 Eb], [(1, .lf (.ptr 0 0)), (19, .lf (.d (.sl .str))), (20, .lf (.d tI)), (21, .lf (.d tI))], [.box 26 [.d (.sl .str), .d (.sl Eb)]]⟩, [(2, ⟨[.boxSl 1 0 .str, .boxSl 1 1 Eb], [(1, .lf (.ptr 0 0))], [.box 26 [.d (.sl .str), .d (.sl Eb)]]⟩), (1, ⟨[], [(2, .lf (.d .bool))], []⟩)]), (11, ⟨[.sl 30 0 Eb, .boxSl 1 0 .str, .boxSl 1 1 Eb], [(1, .lf (.ptr 0 0)), (30, .lf (.d (.sl Eb))), (31, .lf (.d tI)), (32, .lf (.d tI))], [.box 26 [.d (.sl .str), .d (.sl Eb)]]⟩, [(4, p0), (1, ⟨[], [(2, .lf (.d .bool))], []⟩)])]
noncomputable def co_impl_ValidDisk_5 : Code := (Ao (A8 Tryz.f111)).getD 0 .skip
noncomputable def co_impl_ValidDisk_11 : Code := (Ao (A8 Tryz.f111)).getD 1 .skip
def C5 (v30 : List Wr) (v31 : Int) (v32 : Int) (b0_0 : List ByteArray) (b0_1 : List Wr) : Nat := (v31 - v32).toNat + 1
noncomputable def Fq {R : Type}  (NX : ((List Wr) × (Int) × (Int) × (List ByteArray) × (List Wr) × Unit) → Option R) (X4 : (Unit) → Option R) (X1 : ((Bool) × Unit) → Option R) (v30 : List Wr) (v31 : Int) (v32 : Int) (b0_0 : List ByteArray) (b0_1 : List Wr) : Option R :=
 bif decide (v32 < v31) then bif decide (0 ≤ v32) then bif decide (v32 < nI v30.length) then bif !Cg (v30.getD v32.toNat (0, ByteArray.mk #[], ())).1 0 (IntKind.i64.wrap (nI b0_0.length - 1)) then X1 (false, ()) else bif nI (ByteArray.size (v30.getD v32.toNat (0, ByteArray.mk #[], ())).2.1) != 64 then X1 (false, ()) else NX (v30, v31, IntKind.i64.wrap (v32 + 1), b0_0, b0_1, ()) else none else none else X4 PUnit.unit
noncomputable def Bn : Nat → (List Wr) → (Int) → (Int) → (List ByteArray) → (List Wr) →  Option ((Unit) ⊕ ((Bool) × Unit))
 | 0, _, _, _, _, _ => none
 | m + 1, v30, v31, v32, b0_0, b0_1 => Fq  (fun d => Bn m d.1 d.2.1 d.2.2.1 d.2.2.2.1 d.2.2.2.2.1) (fun d => some (.inl (d))) (fun d => some (.inr (d))) v30 v31 v32 b0_0 b0_1
def Dm (v19 : List ByteArray) (v20 : Int) (v21 : Int) (b0_0 : List ByteArray) (b0_1 : List Wr) : Nat := (v20 - v21).toNat + 1
noncomputable def Ge {R : Type}  (NX : ((List ByteArray) × (Int) × (Int) × (List ByteArray) × (List Wr) × Unit) → Option R) (X2 : Dk → Option R) (X1 : ((Bool) × Unit) → Option R) (v19 : List ByteArray) (v20 : Int) (v21 : Int) (b0_0 : List ByteArray) (b0_1 : List Wr) : Option R :=
 bif decide (v21 < v20) then bif decide (0 ≤ v21) then bif decide (v21 < nI v19.length) then bif nI (ByteArray.size (v19.getD v21.toNat (ByteArray.mk #[]))) != 64 then X1 (false, ()) else NX (v19, v20, IntKind.i64.wrap (v21 + 1), b0_0, b0_1, ()) else none else none else X2 (b0_0, b0_1, ())
noncomputable def Bt : Nat → (List ByteArray) → (Int) → (Int) → (List ByteArray) → (List Wr) →  Option (Dk ⊕ ((Bool) × Unit))
 | 0, _, _, _, _, _ => none
 | m + 1, v19, v20, v21, b0_0, b0_1 => Ge  (fun d => Bt m d.1 d.2.1 d.2.2.1 d.2.2.2.1 d.2.2.2.2.1) (fun d => some (.inl (d))) (fun d => some (.inr (d))) v19 v20 v21 b0_0 b0_1
noncomputable def M4 (a0 : Dk) : Option ((((Bool) × Unit) × (Unit))) :=
 bif !Cg (nI (List.length a0.1)) 8 200 then some ((false, ()), ()) else bif decide (nI (List.length a0.2.1) > 300) then some ((false, ()), ()) else ((fun d => Bt (Dm d.1 d.2.1 d.2.2.1 d.2.2.2.1 d.2.2.2.2.1) d.1 d.2.1 d.2.2.1 d.2.2.2.1 d.2.2.2.2.1) (a0.1, nI (List.length a0.1), 0, a0)).bind fun val => Cs (fun val => ((fun d => Bn (C5 d.1 d.2.1 d.2.2.1 d.2.2.2.1 d.2.2.2.2.1) d.1 d.2.1 d.2.2.1 d.2.2.2.1 d.2.2.2.2.1) (val.2.1, nI (List.length val.2.1), 0, val)).bind fun val => Cs (fun val => some ((true, ()), ())) (fun val => some (val, ())) val) (fun val => some (val, ())) val
theorem Acg (a0 : Dk) : M4 a0 = some ((Gn a0, ()), ()) := by
 unfold M4 Gn B8
 have c1 : decide (nI a0.2.1.length > 300) = !decide (a0.2.1.length ≤ 300) := Aav _ 300
 rw [c1]
 show (bif !E9 (a0.1.length : Int) 8 200 then _ else _) = _
 cases hin : E9 (a0.1.length : Int) 8 200 with
 | false => rfl
 | true =>
  have hlen : a0.1.length ≤ 200 := by have := of_decide_eq_true (Cj hin).2; omega
  by_cases hp : a0.2.1.length ≤ 300
  ·rw [decide_eq_true hp]
   have hL := Ma (n := a0.1.length) (fun i => decide ((a0.1.getD i z0).size = 64)) (g := fun m i => Bt m a0.1 (nI a0.1.length) i a0.1 a0.2.1) (ok := .inl (a0.1, a0.2.1, ())) (bad := .inr (false, ())) (fun m i hi => by
    show Bt (m + 1) a0.1 (nI a0.1.length) i a0.1 a0.2.1 = _
    simp only [Bt, Ge]
    have g1 : (nI (ByteArray.size (List.getD a0.1 i (ByteArray.mk #[]))) != 64) = !decide ((a0.1.getD i z0).size = 64) := A02 _ 64
    rw [Ou hi, F2, wI (show i < 4611686018427387904 by omega), Int.toNat_natCast, g1]
    cases decide ((a0.1.getD i z0).size = 64) <;> rfl) (fun m => by
    show Bt (m + 1) a0.1 (nI a0.1.length) (a0.1.length : Int) a0.1 a0.2.1 = _
    simp only [Bt, Ge]
    rw [I0]
    rfl) (Dm a0.1 (nI a0.1.length) 0 a0.1 a0.2.1) 0 (by omega) (by simp [Dm, nI])
   have hL' : Bt (Dm a0.1 (nI a0.1.length) 0 a0.1 a0.2.1) a0.1 (nI a0.1.length) 0 a0.1 a0.2.1 = _ := hL
   have hM := Ma (n := a0.2.1.length) (fun i => Agr a0.1.length (a0.2.1.getD i zW)) (g := fun m i => Bn m a0.2.1 (nI a0.2.1.length) i a0.1 a0.2.1) (ok := .inl ()) (bad := .inr (false, ())) (fun m i hi => by
    show Bn (m + 1) a0.2.1 (nI a0.2.1.length) i a0.1 a0.2.1 = _
    simp only [Bn, Fq]
    have g1 : (nI (ByteArray.size (List.getD a0.2.1 i (0, ByteArray.mk #[], ())).2.1) != 64) = !decide ((a0.2.1.getD i zW).2.1.size = 64) := A02 _ 64
    have hw : IntKind.i64.wrap (nI a0.1.length - 1) = (a0.1.length : Int) - 1 := Ad (by simp only [nI]; omega) (by simp only [nI]; omega)
    rw [Ou hi, F2, wI (show i < 4611686018427387904 by omega), Int.toNat_natCast, g1, hw]
    have g2 : Cg (List.getD a0.2.1 i (0, ByteArray.mk #[], ())).1 0 ((a0.1.length : Int) - 1) = (decide (0 ≤ (a0.2.1.getD i zW).1) && decide ((a0.2.1.getD i zW).1 < (a0.1.length : Int))) := by
     show (decide (0 ≤ (a0.2.1.getD i zW).1) && decide ((a0.2.1.getD i zW).1 ≤ (a0.1.length : Int) - 1)) = _
     congr 1
     exact decide_eq_decide.2 (by omega)
    rw [g2]
    unfold Agr
    cases decide (0 ≤ (a0.2.1.getD i zW).1) <;> cases decide ((a0.2.1.getD i zW).1 < (a0.1.length : Int)) <;> cases decide ((a0.2.1.getD i zW).2.1.size = 64) <;> rfl) (fun m => by
    show Bn (m + 1) a0.2.1 (nI a0.2.1.length) (a0.2.1.length : Int) a0.1 a0.2.1 = _
    simp only [Bn, Fq]
    rw [I0]
    rfl) (C5 a0.2.1 (nI a0.2.1.length) 0 a0.1 a0.2.1) 0 (by omega) (by simp [C5, nI])
   have hM' : Bn (C5 a0.2.1 (nI a0.2.1.length) 0 a0.1 a0.2.1) a0.2.1 (nI a0.2.1.length) 0 a0.1 a0.2.1 = _ := hM
   show (Bt (Dm a0.1 (nI a0.1.length) 0 a0.1 a0.2.1) a0.1 (nI a0.1.length) 0 a0.1 a0.2.1).bind _ = _
   rw [hL']
   rw [Nat.sub_zero] at hM' ⊢
   cases (List.range' 0 a0.1.length).all (fun i => decide ((a0.1.getD i z0).size = 64)) with
   | false => rfl
   | true =>
    show (Bn (C5 a0.2.1 (nI a0.2.1.length) 0 a0.1 a0.2.1) a0.2.1 (nI a0.2.1.length) 0 a0.1 a0.2.1).bind _ = _
    rw [hM']
    cases (List.range' 0 a0.2.1.length).all (fun i => Agr a0.1.length (a0.2.1.getD i zW)) <;> rfl
  ·rw [decide_eq_false hp]
   rfl
noncomputable def Pq {R : Type} (k : Kt R) := (Cs (Iz (pa_impl_ValidDisk 5) (.exit 0) 2 k) (Iz (pa_impl_ValidDisk 5) .ret 1 k))
noncomputable def O0 {R : Type} (k : Kt R) := (Cs (Iz (pa_impl_ValidDisk 11) (.exit 2) 4 k) (Iz (pa_impl_ValidDisk 11) .ret 1 k))
noncomputable def N8 {R : Type} : Lt R pa_impl_ValidDisk := (Ef (pat := pa_impl_ValidDisk) 5 (fun d k => (Bt (Dm d.1 d.2.1 d.2.2.1 d.2.2.2.1 d.2.2.2.2.1) d.1 d.2.1 d.2.2.1 d.2.2.2.1 d.2.2.2.2.1).bind (Pq k)) (Ef (pat := pa_impl_ValidDisk) 11 (fun d k => (Bn (C5 d.1 d.2.1 d.2.2.1 d.2.2.2.1 d.2.2.2.2.1) d.1 d.2.1 d.2.2.1 d.2.2.2.1 d.2.2.2.2.1).bind (O0 k)) Fu))
theorem M5 : As Tryz.prog ta_impl_ValidDisk := Au ⟨En, trivial⟩
theorem Y0 {R : Type} : Ay Tryz.prog R 51 0 pa_impl_ValidDisk N8 co_impl_ValidDisk_11 :=
 B6 (cfg := ⟨ta_impl_ValidDisk, 0, 51, pa_impl_ValidDisk⟩) 11 [] (fun NX X d => Fq  NX (fun e => X (.inl (e))) (fun e => X (.inr (e))) d.1 d.2.1 d.2.2.1 d.2.2.2.1 d.2.2.2.2.1) (fun m d => Bn m d.1 d.2.1 d.2.2.1 d.2.2.2.1 d.2.2.2.2.1) (fun d => C5 d.1 d.2.1 d.2.2.1 d.2.2.2.1 d.2.2.2.2.1) O0 M5 trivial (fun f NX d => by unfold Fq; simp only [Am, Ap, Ah, Option.bind_assoc, Option.bind_none, Option.bind_some]) (fun _ _ _ => by kernel_rfl)
theorem Zy {R : Type} : Ay Tryz.prog R 51 0 pa_impl_ValidDisk N8 co_impl_ValidDisk_5 :=
 B6 (cfg := ⟨ta_impl_ValidDisk, 0, 51, pa_impl_ValidDisk⟩) 5 [] (fun NX X d => Ge  NX (fun e => X (.inl (e))) (fun e => X (.inr (e))) d.1 d.2.1 d.2.2.1 d.2.2.2.1 d.2.2.2.2.1) (fun m d => Bt m d.1 d.2.1 d.2.2.1 d.2.2.2.1 d.2.2.2.2.1) (fun d => Dm d.1 d.2.1 d.2.2.1 d.2.2.2.1 d.2.2.2.2.1) Pq M5 trivial (fun f NX d => by unfold Ge; simp only [Am, Ap, Ah, Option.bind_assoc, Option.bind_none, Option.bind_some]) (fun _ _ _ => by kernel_rfl)
theorem M6 : Bo Tryz.prog 111 sd_impl_ValidDisk :=
 At (pat := pa_impl_ValidDisk) [co_impl_ValidDisk_5, co_impl_ValidDisk_11] N8 M5 ⟨Zy, Y0, trivial⟩ Tryz.func111 (de := fun x => M4 x.1) (fun x r h => (Acg x.1).trans h) fun _ => by kernel_rfl
def Ki (p : Pg) (w : Int) : Bool := Ig p w
def Ach : Sig := ⟨[.rd yPg, .rd tI], [some 4, none], [.rd .bool], [none]⟩
noncomputable def sd_impl_validPage : SD := ⟨Ach, fun x => some (((Ki x.1 x.2.1), ()), (()))⟩
noncomputable def M7 (a0 : Pg) (a1 : Int) : Option ((((Bool) × Unit) × (Unit))) :=
 bif Cg a1 1 8 then bif Cg a0.1 1 4 then bif Cg a0.2.1 1 60000 then bif Cg a0.2.2.1 1 1000000000 then bif decide (nI (ByteArray.size a0.2.2.2.1) ≤ IntKind.i64.wrap (IntKind.i64.wrap (64 - a1) - 8)) then bif a0.1 != 3 then some ((true, ()), ()) else some ((ByteArray.toList a0.2.2.2.1 == (ByteArray.mk #[]).toList, ()), ()) else some ((false, ()), ()) else some ((false, ()), ()) else some ((false, ()), ()) else some ((false, ()), ()) else some ((false, ()), ())
theorem Aci (a0 : Pg) (a1 : Int) : M7 a0 a1 = some (((Ki a0 a1), ()), (())) := by
 unfold M7 Ki Ig
 have tl : ByteArray.toList (ByteArray.mk #[]) = [] := by decide +kernel
 rw [tl]
 show (bif E9 a1 1 8 then (bif E9 a0.1 1 4 then (bif E9 a0.2.1 1 60000 then (bif E9 a0.2.2.1 1 1000000000 then _ else _) else _) else _) else _) = _
 cases hw : E9 a1 1 8 with
 | false => rfl
 | true =>
  have k1 := of_decide_eq_true (Cj hw).1
  have k2 := of_decide_eq_true (Cj hw).2
  rw [Ad (n := 64 - a1) (by omega) (by omega), Ad (by omega) (by omega), show 64 - a1 - 8 = 56 - a1 by omega]
  cases E9 a0.1 1 4 <;> cases E9 a0.2.1 1 60000 <;> cases E9 a0.2.2.1 1 1000000000 <;> try rfl
  show (bif decide ((ByteArray.size a0.2.2.2.1 : Int) ≤ 56 - a1) then _ else _) = _
  cases decide ((ByteArray.size a0.2.2.2.1 : Int) ≤ 56 - a1) <;> cases (a0.1 != 3) <;> rfl
theorem Acj : Bo Tryz.prog 188 sd_impl_validPage :=
 At (pat := Cr) [] Fu (Au (l := [(112, sd_impl_in), (157, sd_impl_room)]) ⟨En, P5, trivial⟩) trivial Tryz.func188 (de := fun x => M7 x.1 x.2.1) (fun x r h => (Aci x.1 x.2.1).trans h) fun _ => by kernel_rfl
def Ack : Sig := ⟨[.rd .str, .rd (.int .i64)], [none, none], [.rd .str], [none]⟩
noncomputable def M8 : SD := ⟨Ack, fun x => (m6 x.1 x.2.1).bind fun r => some ((r, ()), ())⟩
theorem Acl : I9 Tryz.prog 189 ∧ Xe Tryz.prog 189 M8.sg M8.den := ⟨⟨_, Tryz.func189, by kernel_rfl, by kernel_rfl⟩, Azu⟩
def N9 (s : ByteArray) (w : Int) : Option ByteArray := if s.size < 4611686018427387904 then some (Aap s w) else none
def K0 (v0 : ByteArray) (v1 v5 v6 : Int) : Nat := (nI v0.size - v6).toNat + 1
def Atk : Sig := ⟨[.rd .str, .rd tI], [none, none], [.rd .str], [none]⟩
noncomputable def sd_impl_Sum : SD := ⟨Atk, fun x => (N9 x.1 x.2.1).bind fun r => some ((r, ()), (()))⟩
noncomputable def ta_impl_Sum : Tb := tb [(112, sd_impl_in), (175, sd_impl_be)]
def pa_impl_Sum : Nat → Pat × (Nat → Pat) := Fe [(6, ⟨[], [(0, .lf (.d .str)), (1, .lf (.d tI)), (5, .lf (.d (.int .u64))), (6, .lf (.d tI))], []⟩, [(2, ⟨[], [(1, .lf (.d tI)), (5, .lf (.d (.int .u64)))], []⟩)])]
noncomputable def co_impl_Sum_6 : Code := (Ao (A8 Tryz.f190)).getD 0 .skip
noncomputable def K1 {R : Type}  (NX : ((ByteArray) × (Int) × (Int) × (Int) × Unit) → Option R) (X2 : ((Int) × (Int) × Unit) → Option R) (v0 : ByteArray) (v1 : Int) (v5 : Int) (v6 : Int) : Option R :=
 bif decide (v6 < nI v0.size) then bif decide (0 ≤ v6) then bif decide (v6 < nI v0.size) then NX (v0, v1, IntKind.u64.wrap (IntKind.u64.wrap (nI (BitVec.ofInt 64 v5 ^^^ BitVec.ofInt 64 (IntKind.u64.wrap (Af v0 v6))).toNat) * 1099511628211), IntKind.i64.wrap (v6 + 1), ()) else none else none else X2 (v1, v5, ())
noncomputable def Fc : Nat → (ByteArray) → (Int) → (Int) → (Int) →  Option ((Int) × (Int) × Unit)
 | 0, _, _, _, _ => none
 | m + 1, v0, v1, v5, v6 => K1  (fun d => Fc m d.1 d.2.1 d.2.2.1 d.2.2.2.1) (fun d => some (d)) v0 v1 v5 v6
noncomputable def Y1 (a0 : ByteArray) (a1 : Int) : Option ((((ByteArray) × Unit) × (Unit))) :=
 bif !Cg a1 1 8 then some ((ByteArray.mk #[], ()), ()) else ((fun d => Fc (K0 d.1 d.2.1 d.2.2.1 d.2.2.2.1) d.1 d.2.1 d.2.2.1 d.2.2.2.1) (a0, a1, 14695981039346656037, 0, ())).bind fun val => bif decide (0 ≤ IntKind.i64.wrap (8 - val.1)) then bif decide (IntKind.i64.wrap (8 - val.1) ≤ nI (Cv (IntKind.i64.wrap val.2.1) (Int.toNat 8)).size) then some ((Ag (Cv (IntKind.i64.wrap val.2.1) (Int.toNat 8)) (IntKind.i64.wrap (8 - val.1)) (nI (Cv (IntKind.i64.wrap val.2.1) (Int.toNat 8)).size), ()), ()) else none else none
theorem Atl (a0 : ByteArray) (a1 : Int) r (h : N9 a0 a1 = some r) : Y1 a0 a1 = some ((r, ()), (())) := by
 unfold N9 at h
 split at h
 rotate_left
 ·cases h
 rename_i hsz
 cases h
 unfold Y1 Aap
 generalize hC : (14695981039346656037 : Int) = C
 have h0 : U64 C := by rw [← hC]; exact ⟨by decide, by decide⟩
 show (bif !E9 a1 1 8 then _ else _) = _
 cases hw : E9 a1 1 8 with
 | false => rfl
 | true =>
  have k1 := of_decide_eq_true (Cj hw).1
  have k2 := of_decide_eq_true (Cj hw).2
  ·simp only [Bool.not_true, cond_false, cond_true]
   have hL := Zl a0.size (fun _ _ => True) (fun i h => Xx h (Af a0 i)) (g := fun m i h => Fc m a0 a1 h i) (ok := fun h => (a1, h, ())) (fun m i h hi _ => by
    show Fc (m + 1) a0 a1 h i = _
    simp only [Fc, K1]
    have c1 : (i : Int) < nI a0.size := by simp only [nI]; omega
    rw [decide_eq_true c1, F2, wI (show i < 4611686018427387904 by omega)]
    rfl) (fun m h _ => by
    show Fc (m + 1) a0 a1 h a0.size = _
    simp only [Fc, K1]
    rw [decide_eq_false (show ¬ ((a0.size : Int) < nI a0.size) by simp only [nI]; omega)]
    rfl) (fun _ _ _ _ => trivial) a0.size (K0 a0 a1 C 0) 0 C (by omega) (by simp only [K0, nI]; omega) trivial
   rw [show ((0 : Nat) : Int) = 0 from rfl] at hL
   refine Tk hL ?_
   have e1 : IntKind.i64.wrap (8 - a1) = 8 - a1 := Ad (by omega) (by omega)
   have hh := Awi a0 a0.size 0 h0
   have eH : iter (fun i h => Xx h (Af a0 i)) a0.size 0 C = Adm a0 a0.size 0 C := rfl
   rw [eH]
   generalize Adm a0 a0.size 0 C = H at hh ⊢
   show (bif decide (0 ≤ IntKind.i64.wrap (8 - a1)) then (bif decide (IntKind.i64.wrap (8 - a1) ≤ nI (ByteArray.size (Cv (IntKind.i64.wrap H) (Int.toNat 8)))) then some ((Ag (Cv (IntKind.i64.wrap H) (Int.toNat 8)) (IntKind.i64.wrap (8 - a1)) (nI (ByteArray.size (Cv (IntKind.i64.wrap H) (Int.toNat 8)))), ()), ()) else none) else none) = some ((Cv H a1.toNat, ()), ())
   rw [e1, A04 hh k1 k2, decide_eq_true (show 0 ≤ 8 - a1 by omega), decide_eq_true (show 8 - a1 ≤ nI (ByteArray.size (Cv (IntKind.i64.wrap H) (Int.toNat 8))) by rw [Ii]; simp [nI]; omega)]
   rfl
noncomputable def i7 {R : Type} (k : Kt R) := (Iz (pa_impl_Sum 6) (.exit 0) 2 k)
noncomputable def Alx {R : Type} : Lt R pa_impl_Sum := (Ef (pat := pa_impl_Sum) 6 (fun d k => (Fc (K0 d.1 d.2.1 d.2.2.1 d.2.2.2.1) d.1 d.2.1 d.2.2.1 d.2.2.2.1).bind (i7 k)) Fu)
theorem Agd : As Tryz.prog ta_impl_Sum := Au ⟨En, V8, trivial⟩
theorem Am6 {R : Type} : Ay Tryz.prog R 29 0 pa_impl_Sum Alx co_impl_Sum_6 :=
 B6 (cfg := ⟨ta_impl_Sum, 0, 29, pa_impl_Sum⟩) 6 [] (fun NX X d => K1  NX X d.1 d.2.1 d.2.2.1 d.2.2.2.1) (fun m d => Fc m d.1 d.2.1 d.2.2.1 d.2.2.2.1) (fun d => K0 d.1 d.2.1 d.2.2.1 d.2.2.2.1) i7 Agd trivial (fun f NX d => by unfold K1; simp only [Am, Ap, Ah, Option.bind_assoc, Option.bind_none, Option.bind_some]) (fun _ _ _ => by kernel_rfl)
theorem Atm : Bo Tryz.prog 190 sd_impl_Sum :=
 At (pat := pa_impl_Sum) [co_impl_Sum_6] Alx Agd ⟨Am6, trivial⟩ Tryz.func190 (de := fun x => Y1 x.1 x.2.1) (fun x r h => Az (Atl x.1 x.2.1) h) fun _ => by kernel_rfl
def Cc (p : Pg) (w : Int) : ByteArray := Db p w
def Ae0 : Sig := ⟨[.rd yPg, .rd tI], [some 4, none], [.rd .str], [none]⟩
noncomputable def sd_impl_FormPage : SD := ⟨Ae0, fun x => some (((Cc x.1 x.2.1), ()), (()))⟩
noncomputable def Oa (a0 : Pg) (a1 : Int) : Option ((((ByteArray) × Unit) × (Unit))) :=
 bif !Ki a0 a1 then some ((ByteArray.mk #[], ()), ()) else bif decide ((Cv a0.1 (Int.toNat 1) ++ Cv a0.2.1 (Int.toNat 2) ++ Cv a0.2.2.1 (Int.toNat 4) ++ Cv (nI (ByteArray.size a0.2.2.2.1)) (Int.toNat 1)).size + ByteArray.size a0.2.2.2.1 ≤ 9223372036854775807) then ((m6 (ByteArray.mk #[0]) (IntKind.i64.wrap (IntKind.i64.wrap (64 - a1) - nI (Cv a0.1 (Int.toNat 1) ++ Cv a0.2.1 (Int.toNat 2) ++ Cv a0.2.2.1 (Int.toNat 4) ++ Cv (nI (ByteArray.size a0.2.2.2.1)) (Int.toNat 1) ++ a0.2.2.2.1).size))).bind fun val => some ((val, ()), ())).bind fun val => bif decide ((Cv a0.1 (Int.toNat 1) ++ Cv a0.2.1 (Int.toNat 2) ++ Cv a0.2.2.1 (Int.toNat 4) ++ Cv (nI (ByteArray.size a0.2.2.2.1)) (Int.toNat 1) ++ a0.2.2.2.1).size + ByteArray.size val.1.1 ≤ 9223372036854775807) then ((N9 (Cv a0.1 (Int.toNat 1) ++ Cv a0.2.1 (Int.toNat 2) ++ Cv a0.2.2.1 (Int.toNat 4) ++ Cv (nI (ByteArray.size a0.2.2.2.1)) (Int.toNat 1) ++ a0.2.2.2.1 ++ val.1.1) a1).bind fun val => some ((val, ()), ())).bind fun val_1 => bif decide (ByteArray.size val_1.1.1 + (Cv a0.1 (Int.toNat 1) ++ Cv a0.2.1 (Int.toNat 2) ++ Cv a0.2.2.1 (Int.toNat 4) ++ Cv (nI (ByteArray.size a0.2.2.2.1)) (Int.toNat 1) ++ a0.2.2.2.1 ++ val.1.1).size ≤ 9223372036854775807) then some ((val_1.1.1 ++ (Cv a0.1 (Int.toNat 1) ++ Cv a0.2.1 (Int.toNat 2) ++ Cv a0.2.2.1 (Int.toNat 4) ++ Cv (nI (ByteArray.size a0.2.2.2.1)) (Int.toNat 1) ++ a0.2.2.2.1 ++ val.1.1), ()), ()) else none else none else none
theorem Ae1 (a0 : Pg) (a1 : Int) : Oa a0 a1 = some (((Cc a0 a1), ()), (())) := by
 unfold Oa Cc Db
 show (bif !Ig a0 a1 then _ else _) = _
 cases hp : Ig a0 a1 with
 | false => rfl
 | true =>
  obtain ⟨hw, k1, k2, kp⟩ := Ql hp
  simp only [Bool.not_true, cond_false, cond_true]
  have hb : Fv a0 a1 = Cv a0.1 1 ++ Cv a0.2.1 2 ++ Cv a0.2.2.1 4 ++ Cv (nI a0.2.2.2.1.size) 1 ++ a0.2.2.2.1 ++ strOfNums (List.replicate (56 - a1 - a0.2.2.2.1.size).toNat 0) := rfl
  have hs4 : (Cv a0.1 1 ++ Cv a0.2.1 2 ++ Cv a0.2.2.1 4 ++ Cv (nI a0.2.2.2.1.size) 1).size = 8 := by simp only [ByteArray.size_append, Ii]
  have hs5 : (Cv a0.1 1 ++ Cv a0.2.1 2 ++ Cv a0.2.2.1 4 ++ Cv (nI a0.2.2.2.1.size) 1 ++ a0.2.2.2.1).size = 8 + a0.2.2.2.1.size := by rw [ByteArray.size_append, hs4]
  show (bif decide ((Cv a0.1 1 ++ Cv a0.2.1 2 ++ Cv a0.2.2.1 4 ++ Cv (nI a0.2.2.2.1.size) 1).size + a0.2.2.2.1.size ≤ 9223372036854775807) then Option.bind (Option.bind (m6 (ByteArray.mk #[0]) (IntKind.i64.wrap (IntKind.i64.wrap (64 - a1) - nI (Cv a0.1 1 ++ Cv a0.2.1 2 ++ Cv a0.2.2.1 4 ++ Cv (nI a0.2.2.2.1.size) 1 ++ a0.2.2.2.1).size))) _) _ else none) = _
  generalize hB : Cv a0.1 1 ++ Cv a0.2.1 2 ++ Cv a0.2.2.1 4 ++ Cv (nI a0.2.2.2.1.size) 1 ++ a0.2.2.2.1 = B at *
  rw [hs4, decide_eq_true (by omega), Ad (n := 64 - a1) (by omega) (by omega), hs5, Ad (by simp only [nI]; omega) (by simp only [nI]; omega)]
  have hr : m6 (ByteArray.mk #[0]) (64 - a1 - nI (8 + a0.2.2.2.1.size)) = some (strOfNums (List.replicate (56 - a1 - a0.2.2.2.1.size).toNat 0)) := by
   have := A3q (56 - a1 - a0.2.2.2.1.size).toNat (by omega)
   rw [show ((56 - a1 - a0.2.2.2.1.size).toNat : Int) = 64 - a1 - nI (8 + a0.2.2.2.1.size) by simp only [nI]; omega] at this
   exact this
  have hz : (strOfNums (List.replicate (56 - a1 - a0.2.2.2.1.size).toNat 0)).size = (56 - a1 - a0.2.2.2.1.size).toNat := by rw [Eh, List.length_replicate]
  generalize strOfNums (List.replicate (56 - a1 - a0.2.2.2.1.size).toNat 0) = Z at *
  refine Tk (Tk hr rfl) ?_
  have hbs : (Fv a0 a1).size ≤ 64 := by rw [hb, ByteArray.size_append, hs5, hz]; omega
  dsimp only
  have hB' : Cv a0.1 (Int.toNat 1) ++ Cv a0.2.1 (Int.toNat 2) ++ Cv a0.2.2.1 (Int.toNat 4) ++ Cv (nI a0.2.2.2.1.size) (Int.toNat 1) ++ a0.2.2.2.1 = B := hB
  rw [hB']
  show (bif decide (ByteArray.size B + ByteArray.size Z ≤ 9223372036854775807) then Option.bind (Option.bind (N9 (B ++ Z) a1) _) _ else none) = _
  have hm : N9 (B ++ Z) a1 = some (Aap (Fv a0 a1) a1) := by
   rw [← hb]
   exact if_pos (by omega)
  rw [hs5, hz, decide_eq_true (by omega)]
  refine Tk (Tk hm rfl) ?_
  show (bif decide (ByteArray.size (Aap (Fv a0 a1) a1) + ByteArray.size (B ++ Z) ≤ 9223372036854775807) then some ((Aap (Fv a0 a1) a1 ++ (B ++ Z), ()), ()) else none) = _
  rw [← hb, T5 hw, decide_eq_true (by omega)]
  rfl
theorem Iu : Bo Tryz.prog 116 sd_impl_FormPage :=
 At (pat := Cr) [] Fu (Au (l := [(175, sd_impl_be), (188, sd_impl_validPage), (189, M8), (190, sd_impl_Sum)]) ⟨V8, Acj, Acl, Atm, trivial⟩) trivial Tryz.func116 (de := fun x => Oa x.1 x.2.1) (fun x r h => (Ae1 x.1 x.2.1).trans h) fun _ => by kernel_rfl
def I6 (s : ByteArray) : Option Int := if s.size ≤ 7 then some (Xw s) else none
def K2 (v0 : ByteArray) (v3 v4 : Int) : Nat := (nI v0.size - v4).toNat + 1
def Atn : Sig := ⟨[.rd .str], [none], [.rd tI], [none]⟩
noncomputable def sd_impl_num : SD := ⟨Atn, fun x => (I6 x.1).bind fun r => some ((r, ()), (()))⟩
noncomputable def ta_impl_num : Tb := tb []
def pa_impl_num : Nat → Pat × (Nat → Pat) := Fe [(4, ⟨[], [(0, .lf (.d .str)), (3, .lf (.d tI)), (4, .lf (.d tI))], []⟩, [(2, ⟨[], [(3, .lf (.d tI))], []⟩)])]
noncomputable def co_impl_num_4 : Code := (Ao (A8 Tryz.f158)).getD 0 .skip
noncomputable def K3 {R : Type}  (NX : ((ByteArray) × (Int) × (Int) × Unit) → Option R) (X2 : ((Int) × Unit) → Option R) (v0 : ByteArray) (v3 : Int) (v4 : Int) : Option R :=
 bif decide (v4 < nI v0.size) then bif decide (0 ≤ v4) then bif decide (v4 < nI v0.size) then NX (v0, IntKind.i64.wrap (nI (BitVec.ofInt 64 (IntKind.i64.wrap (v3 * 2 ^ min (Int.toNat 8) 64)) ||| BitVec.ofInt 64 (IntKind.i64.wrap (Af v0 v4))).toNat), IntKind.i64.wrap (v4 + 1), ()) else none else none else X2 (v3, ())
noncomputable def H5 : Nat → (ByteArray) → (Int) → (Int) →  Option ((Int) × Unit)
 | 0, _, _, _ => none
 | m + 1, v0, v3, v4 => K3  (fun d => H5 m d.1 d.2.1 d.2.2.1) (fun d => some (d)) v0 v3 v4
noncomputable def Y2 (a0 : ByteArray) : Option ((((Int) × Unit) × (Unit))) :=
 ((fun d => H5 (K2 d.1 d.2.1 d.2.2.1) d.1 d.2.1 d.2.2.1) (a0, 0, 0, ())).bind fun val => some (val, ())
theorem Ato (s : ByteArray) (hs : s.size ≤ 7) : ∀ (k m i : Nat) (v : Int), i + k = s.size → k < m → 0 ≤ v → v < 256 ^ i → H5 m s v i = some (Asf s k i v, ())
 | 0, m + 1, i, v, hi, hm, h0, h1 => by
  simp only [H5, K3]
  rw [decide_eq_false (show ¬ ((i : Int) < nI s.size) by simp only [nI]; omega)]
  rfl
 | k + 1, m + 1, i, v, hi, hm, h0, h1 => by
  obtain ⟨hb, hs', e⟩ := A03 s i hi (by omega) h0 h1
  simp only [H5, K3]
  have c1 : (i : Int) < nI s.size := by simp only [nI]; omega
  rw [decide_eq_true c1, decide_eq_true (show (0 : Int) ≤ (i : Int) by omega), wI (show i < 4611686018427387904 by omega), e]
  exact Ato s hs k m (i + 1) _ (by omega) (by omega) hb hs'
theorem Atp (a0 : ByteArray) r (h : I6 a0 = some r) : Y2 a0 = some ((r, ()), (())) := by
 unfold I6 at h
 split at h
 ·rename_i hc
  cases h
  unfold Y2
  have hL := Ato a0 hc a0.size (K2 a0 0 0) 0 0 (by omega) (by simp only [K2, nI]; omega) (by omega) (by decide)
  exact Tk hL rfl
 ·cases h
noncomputable def i8 {R : Type} (k : Kt R) := (Iz (pa_impl_num 4) (.exit 0) 2 k)
noncomputable def Aly {R : Type} : Lt R pa_impl_num := (Ef (pat := pa_impl_num) 4 (fun d k => (H5 (K2 d.1 d.2.1 d.2.2.1) d.1 d.2.1 d.2.2.1).bind (i8 k)) Fu)
theorem Age : As Tryz.prog ta_impl_num := Au trivial
theorem Am7 {R : Type} : Ay Tryz.prog R 19 0 pa_impl_num Aly co_impl_num_4 :=
 B6 (cfg := ⟨ta_impl_num, 0, 19, pa_impl_num⟩) 4 [] (fun NX X d => K3  NX X d.1 d.2.1 d.2.2.1) (fun m d => H5 m d.1 d.2.1 d.2.2.1) (fun d => K2 d.1 d.2.1 d.2.2.1) i8 Age trivial (fun f NX d => by unfold K3; simp only [Am, Ap, Ah, Option.bind_assoc, Option.bind_none, Option.bind_some]) (fun _ _ _ => by kernel_rfl)
theorem Agf : Bo Tryz.prog 158 sd_impl_num :=
 At (pat := pa_impl_num) [co_impl_num_4] Aly Age ⟨Am7, trivial⟩ Tryz.func158 (de := fun x => Y2 x.1) (fun x r h => Az (Atp x.1) h) fun _ => by kernel_rfl
def Ab (s : ByteArray) (w : Int) : Pg × Bool := Cm s w
def Ae2 : Sig := ⟨[.rd .str, .rd tI], [none, none], [.rd yPg, .rd .bool], [some 4, none]⟩
noncomputable def sd_impl_ReadPage : SD := ⟨Ae2, fun x => some (((Ab x.1 x.2.1).1, (Ab x.1 x.2.1).2, ()), (()))⟩
noncomputable def Ob (a0 : ByteArray) (a1 : Int) : Option (((Pg × (Bool) × Unit) × (Unit))) :=
 bif nI a0.size != 64 then some (((0, 0, 0, ByteArray.mk #[], ()), false, ()), ()) else bif !Cg a1 1 8 then some (((0, 0, 0, ByteArray.mk #[], ()), false, ()), ()) else bif decide (0 ≤ a1) then bif decide (a1 ≤ nI a0.size) then bif decide (7 < nI (Ag a0 a1 (nI a0.size)).size) then bif decide (IntKind.i64.wrap (Af (Ag a0 a1 (nI a0.size)) 7) > IntKind.i64.wrap (IntKind.i64.wrap (64 - a1) - 8)) then some (((0, 0, 0, ByteArray.mk #[], ()), false, ()), ()) else bif decide (0 < nI (Ag a0 a1 (nI a0.size)).size) then bif decide (3 ≤ nI (Ag a0 a1 (nI a0.size)).size) then ((I6 (Ag (Ag a0 a1 (nI a0.size)) 1 3)).bind fun val => some ((val, ()), ())).bind fun val => bif decide (7 ≤ nI (Ag a0 a1 (nI a0.size)).size) then ((I6 (Ag (Ag a0 a1 (nI a0.size)) 3 7)).bind fun val => some ((val, ()), ())).bind fun val_1 => bif decide (8 ≤ IntKind.i64.wrap (8 + IntKind.i64.wrap (Af (Ag a0 a1 (nI a0.size)) 7))) then bif decide (IntKind.i64.wrap (8 + IntKind.i64.wrap (Af (Ag a0 a1 (nI a0.size)) 7)) ≤ nI (Ag a0 a1 (nI a0.size)).size) then bif !(Cc (IntKind.i64.wrap (Af (Ag a0 a1 (nI a0.size)) 0), val.1.1, val_1.1.1, Ag (Ag a0 a1 (nI a0.size)) 8 (IntKind.i64.wrap (8 + IntKind.i64.wrap (Af (Ag a0 a1 (nI a0.size)) 7))), ()) a1).toList == a0.toList then some (((0, 0, 0, ByteArray.mk #[], ()), false, ()), ()) else some (((IntKind.i64.wrap (Af (Ag a0 a1 (nI a0.size)) 0), val.1.1, val_1.1.1, Ag (Ag a0 a1 (nI a0.size)) 8 (IntKind.i64.wrap (8 + IntKind.i64.wrap (Af (Ag a0 a1 (nI a0.size)) 7))), ()), true, ()), ()) else none else none else none else none else none else none else none else none
theorem Ae3 (a0 : ByteArray) (a1 : Int) : Ob a0 a1 = some (((Ab a0 a1).1, (Ab a0 a1).2, ()), (())) := by
 unfold Ob Ab Cm
 show (bif nI a0.size != 64 then _ else (bif !E9 a1 1 8 then _ else _)) = _
 cases hz : nI a0.size != 64 with
 | true => rfl
 | false =>
   cases hw : E9 a1 1 8 with
   | false => rfl
   | true =>
    have k1 := (Hb hw).1
    have k2 := (Hb hw).2
    have hs : a0.size = 64 := by
     by_cases q : nI a0.size = 64
     ·simp only [nI] at q; omega
     ·rw [(bne_iff_ne).2 q] at hz; cases hz
    have hb : (Ag a0 a1 (nI a0.size)).size = (64 - a1).toNat := by rw [E3 (by omega) (by simp only [nI]; omega) (by simp [nI])]; simp only [nI, hs]; omega
    simp only [Bool.not_true, cond_false, cond_true]
    rw [decide_eq_true (show (0 : Int) ≤ a1 by omega), decide_eq_true (show a1 ≤ nI a0.size by simp only [nI]; omega)]
    unfold Au0
    generalize Ag a0 a1 (nI a0.size) = b at *
    obtain ⟨b0, b1⟩ := Fw b 7
    obtain ⟨c0, c1⟩ := Fw b 0
    have hB : nI b.size = 64 - a1 := by simp only [nI]; omega
    rw [hB, decide_eq_true (show (7 : Int) < 64 - a1 by omega), decide_eq_true (show (0 : Int) < 64 - a1 by omega), decide_eq_true (show (3 : Int) ≤ 64 - a1 by omega), decide_eq_true (show (7 : Int) ≤ 64 - a1 by omega), Ad (n := Af b 7) (by omega) (by omega), Ad (n := Af b 0) (by omega) (by omega), Ad (n := 64 - a1) (by omega) (by omega), Ad (n := 64 - a1 - 8) (by omega) (by omega), Ad (n := 8 + Af b 7) (by omega) (by omega), show 64 - a1 - 8 = 56 - a1 by omega]
    by_cases q : Af b 7 > 56 - a1
    ·rw [decide_eq_true q]; rfl
    ·rw [decide_eq_false q]
     have n1 : I6 (Ag b 1 3) = some (Xw (Ag b 1 3)) := if_pos (by rw [E3 (by omega) (by omega) (by omega)]; decide)
     have n2 : I6 (Ag b 3 7) = some (Xw (Ag b 3 7)) := if_pos (by rw [E3 (by omega) (by omega) (by omega)]; decide)
     simp only [n1, n2, Option.bind_some, cond_true, cond_false]
     rw [decide_eq_true (show 8 ≤ 8 + Af b 7 by omega), decide_eq_true (show 8 + Af b 7 ≤ 64 - a1 by omega)]
     show (bif !(ByteArray.toList (Db (Auz b) a1) == ByteArray.toList a0) then _ else _) = _
     cases (ByteArray.toList (Db (Auz b) a1) == ByteArray.toList a0) <;> rfl
theorem U2 : Bo Tryz.prog 68 sd_impl_ReadPage :=
 At (pat := Cr) [] Fu (Au (l := [(112, sd_impl_in), (116, sd_impl_FormPage), (157, sd_impl_room), (158, sd_impl_num)]) ⟨En, Iu, P5, Agf, trivial⟩) trivial Tryz.func68 (de := fun x => Ob x.1 x.2.1) (fun x r h => (Ae3 x.1 x.2.1).trans h) fun _ => by kernel_rfl
def Iv (r : Rt) : Bool := L9 r
def Acm : Sig := ⟨[.rd yRt], [some 4], [.rd .bool], [none]⟩
noncomputable def sd_impl_validRoot : SD := ⟨Acm, fun x => some (((Iv x.1), ()), (()))⟩
noncomputable def M9 (a0 : Rt) : Option ((((Bool) × Unit) × (Unit))) :=
 bif Cg a0.2.1 0 1 then some ((Cg a0.2.2.1 1 999999000, ()), ()) else some ((false, ()), ())
theorem Acn (a0 : Rt) : M9 a0 = some (((Iv a0), ()), (())) := by
 unfold M9 Iv L9
 show (bif E9 a0.2.1 0 1 then _ else _) = _
 cases E9 a0.2.1 0 1 <;> rfl
theorem S0 : Bo Tryz.prog 168 sd_impl_validRoot :=
 At (pat := Cr) [] Fu (Au (l := [(112, sd_impl_in)]) ⟨En, trivial⟩) trivial Tryz.func168 (de := fun x => M9 x.1) (fun x r h => (Acn x.1).trans h) fun _ => by kernel_rfl
def Lo (d : Dk) (a : Int) : Option ByteArray := if d.2.1.length ≤ 1099511627776 ∧ 0 ≤ a ∧ a < (d.1.length : Int) then some (Pz d a) else none
def H6 (v1 : Int) (v5 : Int) (b0_0 : List ByteArray) (b0_1 : List Wr) : Nat := (v5 + 1).toNat + 1
def Atq : Sig := ⟨[.rd yDk, .rd tI], [some 2, none], [.rd .str], [none]⟩
noncomputable def sd_impl_see : SD := ⟨Atq, fun x => (Lo x.1 x.2.1).bind fun r => some ((r, ()), (()))⟩
noncomputable def ta_impl_see : Tb := tb []
def pa_impl_see : Nat → Pat × (Nat → Pat) := Fe [(3, ⟨[.boxSl 2 0 .str, .boxSl 2 1 Eb], [(1, .lf (.d tI)), (2, .lf (.ptr 0 0)), (5, .lf (.d tI))], [.box 26 [.d (.sl .str), .d (.sl Eb)]]⟩, [(2, ⟨[.boxSl 2 0 .str, .boxSl 2 1 Eb], [(1, .lf (.d tI)), (2, .lf (.ptr 0 0))], [.box 26 [.d (.sl .str), .d (.sl Eb)]]⟩), (1, ⟨[], [(4, .lf (.d .str))], []⟩)])]
noncomputable def co_impl_see_3 : Code := (Ao (A8 Tryz.f186)).getD 0 .skip
noncomputable def K4 {R : Type}  (NX : ((Int) × (Int) × (List ByteArray) × (List Wr) × Unit) → Option R) (X2 : ((Int) × (List ByteArray) × (List Wr) × Unit) → Option R) (X1 : ((ByteArray) × Unit) → Option R) (v1 : Int) (v5 : Int) (b0_0 : List ByteArray) (b0_1 : List Wr) : Option R :=
 bif decide (v5 ≥ 0) then bif decide (0 ≤ v5) then bif decide (v5 < nI b0_1.length) then bif (b0_1.getD v5.toNat (0, ByteArray.mk #[], ())).1 == v1 then bif decide (0 ≤ v5) then bif decide (v5 < nI b0_1.length) then X1 (b0_1.getD v5.toNat (0, ByteArray.mk #[], ())).2 else none else none else NX (v1, IntKind.i64.wrap (v5 - 1), b0_0, b0_1, ()) else none else none else X2 (v1, b0_0, b0_1, ())
noncomputable def Ds : Nat → (Int) → (Int) → (List ByteArray) → (List Wr) →  Option (((Int) × (List ByteArray) × (List Wr) × Unit) ⊕ ((ByteArray) × Unit))
 | 0, _, _, _, _ => none
 | m + 1, v1, v5, b0_0, b0_1 => K4  (fun d => Ds m d.1 d.2.1 d.2.2.1 d.2.2.2.1) (fun d => some (.inl (d))) (fun d => some (.inr (d))) v1 v5 b0_0 b0_1
noncomputable def Y3 (a0 : Dk) (a1 : Int) : Option ((((ByteArray) × Unit) × (Unit))) :=
 ((fun d => Ds (H6 d.1 d.2.1 d.2.2.1 d.2.2.2.1) d.1 d.2.1 d.2.2.1 d.2.2.2.1) (a1, IntKind.i64.wrap (nI (List.length a0.2.1) - 1), a0)).bind fun val => Cs (fun val => bif decide (0 ≤ val.1) then bif decide (val.1 < nI (List.length val.2.1)) then some ((List.getD val.2.1 (Int.toNat val.1) (ByteArray.mk #[]), ()), ()) else none else none) (fun val => some (val, ())) val
theorem Atr (a0 : Dk) (a1 : Int) r (h : Lo a0 a1 = some r) : Y3 a0 a1 = some ((r, ()), (())) := by
 unfold Lo at h
 split at h
 ·rename_i hc
  obtain ⟨hp, h0, h1⟩ := hc
  cases h
  have hw : IntKind.i64.wrap (nI a0.2.1.length - 1) = (a0.2.1.length : Int) - 1 := Ad (by simp only [nI]; omega) (by simp only [nI]; omega)
  have hL := Aj0 (xs := a0.2.1) zW (fun w => w.1 == a1) (fun w => .inr (w.2.1, ())) (g := fun m i => Ds m a1 i a0.1 a0.2.1) (ok := .inl (a1, a0.1, a0.2.1, ())) (fun m i hi => by
   show Ds (m + 1) a1 i a0.1 a0.2.1 = _
   simp only [Ds, K4]
   have hi0 : (i : Int) ≥ 0 := by omega
   have hw : IntKind.i64.wrap ((i : Int) - 1) = (i : Int) - 1 := Ad (by omega) (by omega)
   rw [decide_eq_true hi0, Ou hi, Int.toNat_natCast, hw]
   rfl) (fun m => by
   show Ds (m + 1) a1 (-1) a0.1 a0.2.1 = _
   simp only [Ds, K4]
   rfl) (H6 a1 ((a0.2.1.length : Int) - 1) a0.1 a0.2.1) a0.2.1.length (by omega) (by simp [H6])
  have hL' : Ds (H6 a1 ((a0.2.1.length : Int) - 1) a0.1 a0.2.1) a1 ((a0.2.1.length : Int) - 1) a0.1 a0.2.1 = _ := hL
  unfold Y3
  rw [hw]
  show (Ds (H6 a1 ((a0.2.1.length : Int) - 1) a0.1 a0.2.1) a1 ((a0.2.1.length : Int) - 1) a0.1 a0.2.1).bind _ = _
  rw [hL', List.take_length]
  show Cs _ _ _ = _
  have hc1 : decide (0 ≤ a1) = true := decide_eq_true h0
  have hc2 : decide (a1 < nI a0.1.length) = true := decide_eq_true h1
  unfold Pz
  rw [m8 (Cs _ _), m8 (fun r : ByteArray => some ((r, ()), ()))]
  simp only [Cs, hc1, hc2, cond_true]
  rfl
 ·cases h
noncomputable def j4 {R : Type} (k : Kt R) := (Cs (Iz (pa_impl_see 3) (.exit 0) 2 k) (Iz (pa_impl_see 3) .ret 1 k))
noncomputable def Alz {R : Type} : Lt R pa_impl_see := (Ef (pat := pa_impl_see) 3 (fun d k => (Ds (H6 d.1 d.2.1 d.2.2.1 d.2.2.2.1) d.1 d.2.1 d.2.2.1 d.2.2.2.1).bind (j4 k)) Fu)
theorem Agg : As Tryz.prog ta_impl_see := Au trivial
theorem Am8 {R : Type} : Ay Tryz.prog R 33 0 pa_impl_see Alz co_impl_see_3 :=
 B6 (cfg := ⟨ta_impl_see, 0, 33, pa_impl_see⟩) 3 [] (fun NX X d => K4  NX (fun e => X (.inl (e))) (fun e => X (.inr (e))) d.1 d.2.1 d.2.2.1 d.2.2.2.1) (fun m d => Ds m d.1 d.2.1 d.2.2.1 d.2.2.2.1) (fun d => H6 d.1 d.2.1 d.2.2.1 d.2.2.2.1) j4 Agg trivial (fun f NX d => by unfold K4; simp only [Am, Ap, Ah, Option.bind_assoc, Option.bind_none, Option.bind_some]) (fun _ _ _ => by kernel_rfl)
theorem Agh : Bo Tryz.prog 186 sd_impl_see :=
 At (pat := pa_impl_see) [co_impl_see_3] Alz Agg ⟨Am8, trivial⟩ Tryz.func186 (de := fun x => Y3 x.1 x.2.1) (fun x r h => Az (Atr x.1 x.2.1) h) fun _ => by kernel_rfl
def Ar (d : Dk) (w : Int) : Rt := A6 d w
def Lp (v1 v6 : Int) (b0_0 : List ByteArray) (b0_1 : List Wr) (b1_0 b1_1 b1_2 b1_3 b2_0 b2_1 b2_2 b2_3 : Int) : Nat := 3
def Ae4 : Sig := ⟨[.rd yDk, .rd tI], [some 2, none], [.rd yRt], [some 4]⟩
noncomputable def sd_impl_FindRoot : SD := ⟨Ae4, fun x => some (((Ar x.1 x.2.1), ()), (()))⟩
noncomputable def ta_impl_FindRoot : Tb := tb [(68, sd_impl_ReadPage), (111, sd_impl_ValidDisk), (112, sd_impl_in), (158, sd_impl_num), (168, sd_impl_validRoot), (186, sd_impl_see)]
def pa_impl_FindRoot : Nat → Pat × (Nat → Pat) := Fe [(6, ⟨[.boxSl 2 0 .str, .boxSl 2 1 Eb], [(1, .lf (.d tI)), (2, .lf (.ptr 0 0)), (4, .lf (.ptr 1 0)), (5, .lf (.ptr 2 0)), (6, .lf (.d tI))], [.box 26 [.d (.sl .str), .d (.sl Eb)], .box 28 [.d tI, .d tI, .d tI, .d tI], .box 28 [.d tI, .d tI, .d tI, .d tI]]⟩, [(2, ⟨[], [(4, .lf (.ptr 0 0)), (5, .lf (.ptr 1 0))], [.box 28 [.d tI, .d tI, .d tI, .d tI], .box 28 [.d tI, .d tI, .d tI, .d tI]]⟩)])]
noncomputable def co_impl_FindRoot_6 : Code := (Ao (A8 Tryz.f113)).getD 0 .skip
noncomputable def I7 {R : Type}  (NX : ((Int) × (Int) × (List ByteArray) × (List Wr) × (Int) × (Int) × (Int) × (Int) × (Int) × (Int) × (Int) × (Int) × Unit) → Option R) (X2 : ((Int) × (Int) × (Int) × (Int) × (Int) × (Int) × (Int) × (Int) × Unit) → Option R) (v1 : Int) (v6 : Int) (b0_0 : List ByteArray) (b0_1 : List Wr) (b1_0 : Int) (b1_1 : Int) (b1_2 : Int) (b1_3 : Int) (b2_0 : Int) (b2_1 : Int) (b2_2 : Int) (b2_3 : Int) : Option R :=
 bif decide (v6 < 2) then ((Lo (b0_0, b0_1, ()) v6).bind fun val => some ((val, ()), ())).bind fun val => bif !(Ab val.1.1 v1).2 then NX (v1, IntKind.i64.wrap (v6 + 1), b0_0, b0_1, b1_0, b1_1, b1_2, b1_3, b2_0, b2_1, b2_2, b2_3, ()) else bif (Ab val.1.1 v1).1.1 != 4 then NX (v1, IntKind.i64.wrap (v6 + 1), b0_0, b0_1, b1_0, b1_1, b1_2, b1_3, b2_0, b2_1, b2_2, b2_3, ()) else bif nI (ByteArray.size (Ab val.1.1 v1).1.2.2.2.1) != 5 then NX (v1, IntKind.i64.wrap (v6 + 1), b0_0, b0_1, b1_0, b1_1, b1_2, b1_3, b2_0, b2_1, b2_2, b2_3, ()) else bif Int.tmod (Ab val.1.1 v1).1.2.2.1 2 != v6 then NX (v1, IntKind.i64.wrap (v6 + 1), b0_0, b0_1, b1_0, b1_1, b1_2, b1_3, b2_0, b2_1, b2_2, b2_3, ()) else bif decide (0 < nI (ByteArray.size (Ab val.1.1 v1).1.2.2.2.1)) then bif decide (1 ≤ nI (ByteArray.size (Ab val.1.1 v1).1.2.2.2.1)) then ((I6 (Ag (Ab val.1.1 v1).1.2.2.2.1 1 (nI (ByteArray.size (Ab val.1.1 v1).1.2.2.2.1)))).bind fun val => some ((val, ()), ())).bind fun val_1 => bif Iv ((Ab val.1.1 v1).1.2.2.1, IntKind.i64.wrap (Af (Ab val.1.1 v1).1.2.2.2.1 0), val_1.1.1, (Ab val.1.1 v1).1.2.1, ()) then bif decide ((Ab val.1.1 v1).1.2.2.1 > b2_0) then NX (v1, IntKind.i64.wrap (v6 + 1), b0_0, b0_1, b1_0, b1_1, b1_2, b1_3, (Ab val.1.1 v1).1.2.2.1, IntKind.i64.wrap (Af (Ab val.1.1 v1).1.2.2.2.1 0), val_1.1.1, (Ab val.1.1 v1).1.2.1, ()) else NX (v1, IntKind.i64.wrap (v6 + 1), b0_0, b0_1, b1_0, b1_1, b1_2, b1_3, b2_0, b2_1, b2_2, b2_3, ()) else NX (v1, IntKind.i64.wrap (v6 + 1), b0_0, b0_1, b1_0, b1_1, b1_2, b1_3, b2_0, b2_1, b2_2, b2_3, ()) else none else none else X2 (b1_0, b1_1, b1_2, b1_3, b2_0, b2_1, b2_2, b2_3, ())
noncomputable def D2 : Nat → (Int) → (Int) → (List ByteArray) → (List Wr) → (Int) → (Int) → (Int) → (Int) → (Int) → (Int) → (Int) → (Int) →  Option ((Int) × (Int) × (Int) × (Int) × (Int) × (Int) × (Int) × (Int) × Unit)
 | 0, _, _, _, _, _, _, _, _, _, _, _, _ => none
 | m + 1, v1, v6, b0_0, b0_1, b1_0, b1_1, b1_2, b1_3, b2_0, b2_1, b2_2, b2_3 => I7  (fun d => D2 m d.1 d.2.1 d.2.2.1 d.2.2.2.1 d.2.2.2.2.1 d.2.2.2.2.2.1 d.2.2.2.2.2.2.1 d.2.2.2.2.2.2.2.1 d.2.2.2.2.2.2.2.2.1 d.2.2.2.2.2.2.2.2.2.1 d.2.2.2.2.2.2.2.2.2.2.1 d.2.2.2.2.2.2.2.2.2.2.2.1) (fun d => some (d)) v1 v6 b0_0 b0_1 b1_0 b1_1 b1_2 b1_3 b2_0 b2_1 b2_2 b2_3
noncomputable def Oc (a0 : Dk) (a1 : Int) : Option (((Rt × Unit) × (Unit))) :=
 bif !Gn a0 then some (((0, 0, 0, 0, ()), ()), ()) else bif !Cg a1 1 8 then some (((0, 0, 0, 0, ()), ()), ()) else ((fun d => D2 (Lp d.1 d.2.1 d.2.2.1 d.2.2.2.1 d.2.2.2.2.1 d.2.2.2.2.2.1 d.2.2.2.2.2.2.1 d.2.2.2.2.2.2.2.1 d.2.2.2.2.2.2.2.2.1 d.2.2.2.2.2.2.2.2.2.1 d.2.2.2.2.2.2.2.2.2.2.1 d.2.2.2.2.2.2.2.2.2.2.2.1) d.1 d.2.1 d.2.2.1 d.2.2.2.1 d.2.2.2.2.1 d.2.2.2.2.2.1 d.2.2.2.2.2.2.1 d.2.2.2.2.2.2.2.1 d.2.2.2.2.2.2.2.2.1 d.2.2.2.2.2.2.2.2.2.1 d.2.2.2.2.2.2.2.2.2.2.1 d.2.2.2.2.2.2.2.2.2.2.2.1) (a1, 0, a0.1, a0.2.1, 0, 0, 0, 0, 0, 0, 1, 0, ())).bind fun val => some ((val.2.2.2.2, ()), ())
theorem Ats (d : Dk) (hd : Ld d) (w : Int) (i : Nat) (hi : i < 2) (m : Nat) (x1 x2 x3 x4 : Int) (b : Rt) :
  D2 (m + 1) w i d.1 d.2.1 x1 x2 x3 x4 b.1 b.2.1 b.2.2.1 b.2.2.2.1 = D2 m w ((i + 1 : Nat) : Int) d.1 d.2.1 x1 x2 x3 x4 (Fg (Pz d i) w i b).1 (Fg (Pz d i) w i b).2.1 (Fg (Pz d i) w i b).2.2.1 (Fg (Pz d i) w i b).2.2.2.1 := by
 have n8 := hd.n8
 have p3 := hd.p300
 have hs : Lo (d.1, d.2.1, ()) (i : Int) = some (Pz d i) := if_pos ⟨by show d.2.1.length ≤ _; omega, by omega, by show (i : Int) < (d.1.length : Int); omega⟩
 simp only [D2, I7]
 rw [decide_eq_true (show (i : Int) < 2 by omega), hs, wI (show i < 4611686018427387904 by omega)]
 simp only [Option.bind_some, cond_true]
 have e : Ab (Pz d i) w = Cm (Pz d i) w := rfl
 rw [e]
 unfold Fg
 have hf := @Qo (Pz d i) w
 generalize Cm (Pz d i) w = p at *
 obtain ⟨g, o⟩ := p
 cases o
 ·rfl
 ·obtain ⟨_, _, _, hp⟩ := hf rfl
  obtain ⟨_, _, r3, _⟩ := X3 hp
  simp only [Bool.not_true, cond_false, Bool.true_and]
  by_cases h4 : g.1 = 4
  ·rw [bne_eq_false_iff_eq.2 h4, show (g.1 == 4) = true from beq_iff_eq.2 h4]
   by_cases h5 : g.2.2.2.1.size = 5
   ·have n1 : I6 (Ag g.2.2.2.1 1 (nI g.2.2.2.1.size)) = some (Xw (Ag g.2.2.2.1 1 (nI g.2.2.2.1.size))) := if_pos (by rw [E3 (by omega) (by simp only [nI]; omega) (by simp [nI])]; simp only [nI]; omega)
    obtain ⟨b0, b1⟩ := Fw g.2.2.2.1 0
    rw [bne_eq_false_iff_eq.2 (show nI g.2.2.2.1.size = 5 by simp only [nI]; omega), decide_eq_true h5, Int.tmod_eq_emod_of_nonneg (by omega)]
    simp only [n1, Option.bind_some, cond_false, Bool.true_and]
    rw [decide_eq_true (show 0 < nI g.2.2.2.1.size by simp only [nI]; omega), decide_eq_true (show 1 ≤ nI g.2.2.2.1.size by simp only [nI]; omega), Ad (n := Af g.2.2.2.1 0) (by omega) (by omega)]
    by_cases h6 : g.2.2.1 % 2 = (i : Int)
    ·rw [bne_eq_false_iff_eq.2 h6, show (g.2.2.1 % 2 == (i : Int)) = true from beq_iff_eq.2 h6]
     show (bif L9 (Jp g) then _ else _) = _
     cases L9 (Jp g)
     ·rfl
     ·by_cases h7 : g.2.2.1 > b.1
      ·rw [decide_eq_true h7]; rfl
      ·rw [decide_eq_false h7]; rfl
    ·rw [bne_iff_ne.2 h6, show (g.2.2.1 % 2 == (i : Int)) = false from beq_eq_false_iff_ne.2 h6]
     rfl
   ·rw [bne_iff_ne.2 (show nI g.2.2.2.1.size ≠ 5 by simp only [nI]; omega), decide_eq_false h5]
    rfl
  ·rw [bne_iff_ne.2 h4, show (g.1 == 4) = false from beq_eq_false_iff_ne.2 h4]
   rfl
theorem Ae5 (a0 : Dk) (a1 : Int) : Oc a0 a1 = some (((Ar a0 a1), ()), (())) := by
 unfold Oc Ar A6
 show (bif !B8 a0 then _ else (bif !E9 a1 1 8 then _ else _)) = _
 cases hv : B8 a0 with
 | false => rfl
 | true =>
  cases hw : E9 a1 1 8 with
  | false => rfl
  | true =>
   have hd := Aay hv
   have h1 := Ats a0 hd a1 0 (by omega) 2 0 0 0 0 (0, 0, 1, 0, ())
   have h2 := Ats a0 hd a1 1 (by omega) 1 0 0 0 0 (Fg (Pz a0 (0 : Nat)) a1 (0 : Nat) (0, 0, 1, 0, ()))
   have h3 := h1.trans h2
   refine Tk h3 ?_
   rfl
noncomputable def Rr {R : Type} (k : Kt R) := (Iz (pa_impl_FindRoot 6) (.exit 0) 2 k)
noncomputable def W5 {R : Type} : Lt R pa_impl_FindRoot := (Ef (pat := pa_impl_FindRoot) 6 (fun d k => (D2 (Lp d.1 d.2.1 d.2.2.1 d.2.2.2.1 d.2.2.2.2.1 d.2.2.2.2.2.1 d.2.2.2.2.2.2.1 d.2.2.2.2.2.2.2.1 d.2.2.2.2.2.2.2.2.1 d.2.2.2.2.2.2.2.2.2.1 d.2.2.2.2.2.2.2.2.2.2.1 d.2.2.2.2.2.2.2.2.2.2.2.1) d.1 d.2.1 d.2.2.1 d.2.2.2.1 d.2.2.2.2.1 d.2.2.2.2.2.1 d.2.2.2.2.2.2.1 d.2.2.2.2.2.2.2.1 d.2.2.2.2.2.2.2.2.1 d.2.2.2.2.2.2.2.2.2.1 d.2.2.2.2.2.2.2.2.2.2.1 d.2.2.2.2.2.2.2.2.2.2.2.1).bind (Rr k)) Fu)
theorem U3 : As Tryz.prog ta_impl_FindRoot := Au ⟨U2, M6, En, Agf, S0, Agh, trivial⟩
theorem u7 {R : Type} : Ay Tryz.prog R 76 0 pa_impl_FindRoot W5 co_impl_FindRoot_6 :=
 B6 (cfg := ⟨ta_impl_FindRoot, 0, 76, pa_impl_FindRoot⟩) 6 [] (fun NX X d => I7  NX X d.1 d.2.1 d.2.2.1 d.2.2.2.1 d.2.2.2.2.1 d.2.2.2.2.2.1 d.2.2.2.2.2.2.1 d.2.2.2.2.2.2.2.1 d.2.2.2.2.2.2.2.2.1 d.2.2.2.2.2.2.2.2.2.1 d.2.2.2.2.2.2.2.2.2.2.1 d.2.2.2.2.2.2.2.2.2.2.2.1) (fun m d => D2 m d.1 d.2.1 d.2.2.1 d.2.2.2.1 d.2.2.2.2.1 d.2.2.2.2.2.1 d.2.2.2.2.2.2.1 d.2.2.2.2.2.2.2.1 d.2.2.2.2.2.2.2.2.1 d.2.2.2.2.2.2.2.2.2.1 d.2.2.2.2.2.2.2.2.2.2.1 d.2.2.2.2.2.2.2.2.2.2.2.1) (fun d => Lp d.1 d.2.1 d.2.2.1 d.2.2.2.1 d.2.2.2.2.1 d.2.2.2.2.2.1 d.2.2.2.2.2.2.1 d.2.2.2.2.2.2.2.1 d.2.2.2.2.2.2.2.2.1 d.2.2.2.2.2.2.2.2.2.1 d.2.2.2.2.2.2.2.2.2.2.1 d.2.2.2.2.2.2.2.2.2.2.2.1) Rr U3 trivial (fun f NX d => by unfold I7; simp only [Am, Ap, Ah, Option.bind_assoc, Option.bind_none, Option.bind_some]) (fun _ _ _ => by kernel_rfl)
theorem Ae6 : Bo Tryz.prog 113 sd_impl_FindRoot :=
 At (pat := pa_impl_FindRoot) [co_impl_FindRoot_6] W5 U3 ⟨u7, trivial⟩ Tryz.func113 (de := fun x => Oc x.1 x.2.1) (fun x r h => (Ae5 x.1 x.2.1).trans h) fun _ => by kernel_rfl
def D8 (d : Dk) (from_ size first life w : Int) : Scd := Sa d from_ size first life w
def Aqv : Sig := ⟨[.rd yDk, .rd tI, .rd tI, .rd tI, .rd tI, .rd tI], [some 2, none, none, none, none, none], [.own 9 .str, .rd tI, .rd tI], [some 3]⟩
noncomputable def sd_impl_Scan : SD := ⟨Aqv, fun x => some (((D8 x.1 x.2.1 x.2.2.1 x.2.2.2.1 x.2.2.2.2.1 x.2.2.2.2.2.1).1, (D8 x.1 x.2.1 x.2.2.1 x.2.2.2.1 x.2.2.2.2.1 x.2.2.2.2.2.1).2.1, (D8 x.1 x.2.1 x.2.2.1 x.2.2.2.1 x.2.2.2.2.1 x.2.2.2.2.2.1).2.2.1, ()), (()))⟩
noncomputable def ta_impl_Scan : Tb := tb [(68, sd_impl_ReadPage), (111, sd_impl_ValidDisk), (112, sd_impl_in), (186, sd_impl_see)]
def pa_impl_Scan : Nat → Pat × (Nat → Pat) := Fe [(9, ⟨[.boxSl 6 0 .str, .boxSl 6 1 Eb, .boxRow 12 0 9 .str, .boxRow 13 0 9 .str], [(1, .lf (.d tI)), (2, .lf (.d tI)), (3, .lf (.d tI)), (5, .lf (.d tI)), (6, .lf (.ptr 0 0)), (12, .lf (.ptr 1 0)), (13, .lf (.ptr 2 0)), (14, .lf (.d .bool)), (15, .lf (.d .str)), (16, .lf (.d tI)), (17, .lf (.d tI))], [.box 26 [.d (.sl .str), .d (.sl Eb)], .box 142 [.row 3, .d tI, .d tI], .box 142 [.row 4, .d tI, .d tI], .row 9 .str, .row 9 .str]⟩, [(2, ⟨[.boxRow 12 0 9 .str, .boxRow 13 0 9 .str], [(12, .lf (.ptr 0 0)), (13, .lf (.ptr 1 0))], [.box 142 [.row 2, .d tI, .d tI], .box 142 [.row 3, .d tI, .d tI], .row 9 .str, .row 9 .str]⟩)])]
noncomputable def co_impl_Scan_9 : Code := (Ao (A8 Tryz.f114)).getD 0 .skip
def Fr (v1 : Int) (v2 : Int) (v3 : Int) (v5 : Int) (v14 : Bool) (v15 : ByteArray) (v16 : Int) (v17 : Int) (b0_0 : List ByteArray) (b0_1 : List Wr) (b1_1 : Int) (b1_2 : Int) (b2_1 : Int) (b2_2 : Int) (r3 : List ByteArray) (r4 : List ByteArray) : Nat := (v2 - v17).toNat + 1
noncomputable def J5 {R : Type}  (NX : ((Int) × (Int) × (Int) × (Int) × (Bool) × (ByteArray) × (Int) × (Int) × (List ByteArray) × (List Wr) × (Int) × (Int) × (Int) × (Int) × (List ByteArray) × (List ByteArray) × Unit) → Option R) (X2 : ((Int) × (Int) × (Int) × (Int) × (List ByteArray) × (List ByteArray) × Unit) → Option R) (v1 : Int) (v2 : Int) (v3 : Int) (v5 : Int) (v14 : Bool) (v15 : ByteArray) (v16 : Int) (v17 : Int) (b0_0 : List ByteArray) (b0_1 : List Wr) (b1_1 : Int) (b1_2 : Int) (b2_1 : Int) (b2_2 : Int) (r3 : List ByteArray) (r4 : List ByteArray) : Option R :=
 bif decide (v17 < v2) then ((Lo (b0_0, b0_1, ()) (IntKind.i64.wrap (v1 + v17))).bind fun val => some ((val, ()), ())).bind fun val => bif !(Ab val.1.1 v5).2 then X2 (b1_1, b1_2, b2_1, b2_2, r3, r4, ()) else bif IntKind.i64.wrap ((Ab val.1.1 v5).1.2.2.1 - v17) != v3 then X2 (b1_1, b1_2, b2_1, b2_2, r3, r4, ()) else bif decide ((Ab val.1.1 v5).1.2.1 < v16) then X2 (b1_1, b1_2, b2_1, b2_2, r3, r4, ()) else bif v14 then bif (Ab val.1.1 v5).1.2.1 != v16 then X2 (b1_1, b1_2, b2_1, b2_2, r3, r4, ()) else bif (Ab val.1.1 v5).1.1 == 3 then X2 (b1_1, b1_2, b2_1, b2_2, r3, r4, ()) else bif (Ab val.1.1 v5).1.1 == 4 then X2 (b1_1, b1_2, b2_1, b2_2, r3, r4, ()) else bif (Ab val.1.1 v5).1.1 == 1 then bif decide (v15.size + ByteArray.size (Ab val.1.1 v5).1.2.2.2.1 ≤ 9223372036854775807) then NX (v1, v2, v3, v5, true, v15 ++ (Ab val.1.1 v5).1.2.2.2.1, (Ab val.1.1 v5).1.2.1, IntKind.i64.wrap (v17 + 1), b0_0, b0_1, b1_1, b1_2, b2_1, b2_2, r3, r4, ()) else none else bif (Ab val.1.1 v5).1.1 == 2 then bif decide (v15.size + ByteArray.size (Ab val.1.1 v5).1.2.2.2.1 ≤ 9223372036854775807) then bif decide ((r4.length + [v15 ++ (Ab val.1.1 v5).1.2.2.2.1].length) * 16 ≤ 140737488355328) then NX (v1, v2, v3, v5, false, ByteArray.mk #[], (Ab val.1.1 v5).1.2.1, IntKind.i64.wrap (v17 + 1), b0_0, b0_1, b1_1, b1_2, IntKind.i64.wrap (v17 + 1), (Ab val.1.1 v5).1.2.1, r3, r4 ++ [v15 ++ (Ab val.1.1 v5).1.2.2.2.1], ()) else none else none else bif (Ab val.1.1 v5).1.1 == 3 then NX (v1, v2, v3, v5, v14, v15, (Ab val.1.1 v5).1.2.1, IntKind.i64.wrap (v17 + 1), b0_0, b0_1, b1_1, b1_2, IntKind.i64.wrap (v17 + 1), (Ab val.1.1 v5).1.2.1, r3, r4, ()) else NX (v1, v2, v3, v5, v14, v15, (Ab val.1.1 v5).1.2.1, IntKind.i64.wrap (v17 + 1), b0_0, b0_1, b1_1, b1_2, b2_1, b2_2, r3, r4, ()) else bif (Ab val.1.1 v5).1.1 == 4 then X2 (b1_1, b1_2, b2_1, b2_2, r3, r4, ()) else bif (Ab val.1.1 v5).1.1 == 1 then bif decide (v15.size + ByteArray.size (Ab val.1.1 v5).1.2.2.2.1 ≤ 9223372036854775807) then NX (v1, v2, v3, v5, true, v15 ++ (Ab val.1.1 v5).1.2.2.2.1, (Ab val.1.1 v5).1.2.1, IntKind.i64.wrap (v17 + 1), b0_0, b0_1, b1_1, b1_2, b2_1, b2_2, r3, r4, ()) else none else bif (Ab val.1.1 v5).1.1 == 2 then bif decide (v15.size + ByteArray.size (Ab val.1.1 v5).1.2.2.2.1 ≤ 9223372036854775807) then bif decide ((r4.length + [v15 ++ (Ab val.1.1 v5).1.2.2.2.1].length) * 16 ≤ 140737488355328) then NX (v1, v2, v3, v5, false, ByteArray.mk #[], (Ab val.1.1 v5).1.2.1, IntKind.i64.wrap (v17 + 1), b0_0, b0_1, b1_1, b1_2, IntKind.i64.wrap (v17 + 1), (Ab val.1.1 v5).1.2.1, r3, r4 ++ [v15 ++ (Ab val.1.1 v5).1.2.2.2.1], ()) else none else none else bif (Ab val.1.1 v5).1.1 == 3 then NX (v1, v2, v3, v5, v14, v15, (Ab val.1.1 v5).1.2.1, IntKind.i64.wrap (v17 + 1), b0_0, b0_1, b1_1, b1_2, IntKind.i64.wrap (v17 + 1), (Ab val.1.1 v5).1.2.1, r3, r4, ()) else NX (v1, v2, v3, v5, v14, v15, (Ab val.1.1 v5).1.2.1, IntKind.i64.wrap (v17 + 1), b0_0, b0_1, b1_1, b1_2, b2_1, b2_2, r3, r4, ()) else X2 (b1_1, b1_2, b2_1, b2_2, r3, r4, ())
noncomputable def Eo : Nat → (Int) → (Int) → (Int) → (Int) → (Bool) → (ByteArray) → (Int) → (Int) → (List ByteArray) → (List Wr) → (Int) → (Int) → (Int) → (Int) → (List ByteArray) → (List ByteArray) →  Option ((Int) × (Int) × (Int) × (Int) × (List ByteArray) × (List ByteArray) × Unit)
 | 0, _, _, _, _, _, _, _, _, _, _, _, _, _, _, _, _ => none
 | m + 1, v1, v2, v3, v5, v14, v15, v16, v17, b0_0, b0_1, b1_1, b1_2, b2_1, b2_2, r3, r4 => J5  (fun d => Eo m d.1 d.2.1 d.2.2.1 d.2.2.2.1 d.2.2.2.2.1 d.2.2.2.2.2.1 d.2.2.2.2.2.2.1 d.2.2.2.2.2.2.2.1 d.2.2.2.2.2.2.2.2.1 d.2.2.2.2.2.2.2.2.2.1 d.2.2.2.2.2.2.2.2.2.2.1 d.2.2.2.2.2.2.2.2.2.2.2.1 d.2.2.2.2.2.2.2.2.2.2.2.2.1 d.2.2.2.2.2.2.2.2.2.2.2.2.2.1 d.2.2.2.2.2.2.2.2.2.2.2.2.2.2.1 d.2.2.2.2.2.2.2.2.2.2.2.2.2.2.2.1) (fun d => some (d)) v1 v2 v3 v5 v14 v15 v16 v17 b0_0 b0_1 b1_1 b1_2 b2_1 b2_2 r3 r4
noncomputable def Wa (a0 : Dk) (a1 : Int) (a2 : Int) (a3 : Int) (a4 : Int) (a5 : Int) : Option ((((List ByteArray) × (Int) × (Int) × Unit) × (Unit))) :=
 bif !Gn a0 then some (([], 0, 0, ()), ()) else bif !Cg a5 1 8 then some (([], 0, 0, ()), ()) else bif decide (a1 < 0) then some (([], 0, 0, ()), ()) else bif decide (a2 < 0) then some (([], 0, 0, ()), ()) else bif decide (a1 > nI (List.length a0.1)) then some (([], 0, 0, ()), ()) else bif decide (a2 > IntKind.i64.wrap (nI (List.length a0.1) - a1)) then some (([], 0, 0, ()), ()) else ((fun d => Eo (Fr d.1 d.2.1 d.2.2.1 d.2.2.2.1 d.2.2.2.2.1 d.2.2.2.2.2.1 d.2.2.2.2.2.2.1 d.2.2.2.2.2.2.2.1 d.2.2.2.2.2.2.2.2.1 d.2.2.2.2.2.2.2.2.2.1 d.2.2.2.2.2.2.2.2.2.2.1 d.2.2.2.2.2.2.2.2.2.2.2.1 d.2.2.2.2.2.2.2.2.2.2.2.2.1 d.2.2.2.2.2.2.2.2.2.2.2.2.2.1 d.2.2.2.2.2.2.2.2.2.2.2.2.2.2.1 d.2.2.2.2.2.2.2.2.2.2.2.2.2.2.2.1) d.1 d.2.1 d.2.2.1 d.2.2.2.1 d.2.2.2.2.1 d.2.2.2.2.2.1 d.2.2.2.2.2.2.1 d.2.2.2.2.2.2.2.1 d.2.2.2.2.2.2.2.2.1 d.2.2.2.2.2.2.2.2.2.1 d.2.2.2.2.2.2.2.2.2.2.1 d.2.2.2.2.2.2.2.2.2.2.2.1 d.2.2.2.2.2.2.2.2.2.2.2.2.1 d.2.2.2.2.2.2.2.2.2.2.2.2.2.1 d.2.2.2.2.2.2.2.2.2.2.2.2.2.2.1 d.2.2.2.2.2.2.2.2.2.2.2.2.2.2.2.1) (a1, a2, a3, a5, false, ByteArray.mk #[], a4, 0, a0.1, a0.2.1, 0, 0, 0, a4, [], [], ())).bind fun val => some ((val.2.2.2.2.2.1, val.2.2.1, val.2.2.2.1, ()), ())
def Att (v : Int × Int × Int × Int × List ByteArray × List ByteArray × Unit) : Scd := (v.2.2.2.2.2.1, v.2.2.1, v.2.2.2.1, ())
theorem Al0 {d : Dk} (hd : Ld d) (f n : Nat) (hfn : f + n ≤ d.1.length) (first w b1 b2 : Int) (r3 : List ByteArray) : ∀ (k m i : Nat) (st : ScT), i + k = n → k < m → Wh i st → (st.1 ≠ 1 → st.2.2.1 = z0) →
  ∃ y, Eo m f n first w (st.1 == 1) st.2.2.1 st.2.1 i d.1 d.2.1 b1 b2 st.2.2.2.2.1 st.2.2.2.2.2 r3 st.2.2.2.1 = some y ∧ Att y = Lh w first (seen d f i k) i st
 | 0, m + 1, i, st, hi, _, _, _ => by
  simp only [Eo, J5]
  rw [decide_eq_false (show ¬ (i : Int) < (n : Int) by omega)]
  exact ⟨_, rfl, rfl⟩
 | k + 1, m + 1, i, st, hi, hm, hI, hz => by
  have h200 := hd.n200
  have e1 : IntKind.i64.wrap ((f : Int) + (i : Int)) = (f : Int) + (i : Int) := Ad (by omega) (by omega)
  have e2 : Lo (d.1, d.2.1, ()) ((f : Int) + (i : Int)) = some (Pz d ((f : Int) + (i : Int))) := if_pos ⟨Nat.le_trans hd.p300 (by decide), by omega, by show _ < (d.1.length : Int); omega⟩
  have e4 : IntKind.i64.wrap ((i : Int) + 1) = ((i + 1 : Nat) : Int) := wI (by omega)
  have es : seen d f i (k + 1) = Pz d ((f : Int) + (i : Int)) :: seen d f (i + 1) k := rfl
  simp only [Eo, J5]
  rw [es, decide_eq_true (show (i : Int) < (n : Int) by omega)]
  simp only [e1, e2, e4, cond_true, Option.bind_some, Ab]
  unfold Lh Adu
  generalize hx : Pz d ((f : Int) + (i : Int)) = x
  obtain ⟨p, ok, hR⟩ : ∃ p ok, Cm x w = (p, ok) := ⟨_, _, rfl⟩
  simp only [hR]
  cases ok with
  | false => exact ⟨_, rfl, rfl⟩
  | true =>
   obtain ⟨q1, q2, q3⟩ := Aii hR
   have e5 : IntKind.i64.wrap (p.2.2.1 - (i : Int)) = p.2.2.1 - (i : Int) := Ad (by omega) (by omega)
   simp only [e5, Bool.not_true, cond_false, Bool.true_and, bne]
   cases hn : (p.2.2.1 - (i : Int) == first) with
   | false => exact ⟨_, rfl, rfl⟩
   | true =>
    simp only [Bool.not_true, cond_false, Bool.true_and]
    have hN := hI.next (p := p) (by omega) q3
    have e6 : decide (ByteArray.size st.2.2.1 + ByteArray.size p.2.2.2.1 ≤ 9223372036854775807) = true := decide_eq_true (by have := hI.2.1; omega)
    have e7 : decide ((List.length st.2.2.2.1 + 1) * 16 ≤ 140737488355328) = true := decide_eq_true (by have := hI.2.2; omega)
    simp only [e6, cond_true, List.length_singleton, e7]
    have ei : (i : Int) + 1 = ((i + 1 : Nat) : Int) := by omega
    have ih := fun hz => Al0 hd f n hfn first w b1 b2 r3 k m (i + 1) (Jw i p st) (by omega) (by omega) hN hz
    unfold Jw at ih ⊢
    unfold Aj8
    rw [ei]
    rw [ei] at ih
    have hk : p.1 = 1 ∨ p.1 = 2 ∨ p.1 = 3 ∨ p.1 = 4 := by omega
    cases hlt : decide (p.2.1 < st.2.1) with
    | true => exact ⟨_, rfl, rfl⟩
    | false =>
     simp only [cond_false]
     have eqc : (p.2.1 == st.2.1) = (st.2.1 == p.2.1) := by
      by_cases q : p.2.1 = st.2.1
      ·rw [q]
      ·rw [beq_eq_false_iff_ne.2 q, beq_eq_false_iff_ne.2 (Ne.symm q)]
     rw [eqc]
     rcases hk with hp | hp | hp | hp
     ·rw [hp] at ih ⊢
      have ih := ih (fun q => absurd rfl q)
      cases ho : (st.1 == 1) with
      | false =>
       have hb : (st.1 != 1) = true := by simp only [bne, ho, Bool.not_false]
       rw [hb]
       exact ih
      | true =>
       have hb : (st.1 != 1) = false := by simp only [bne, ho, Bool.not_true]
       rw [hb]
       cases (st.2.1 == p.2.1) with
       | false => exact ⟨_, rfl, rfl⟩
       | true => exact ih
     ·rw [hp] at ih ⊢
      have ih := ih (fun _ => rfl)
      cases ho : (st.1 == 1) with
      | false =>
       have hb : (st.1 != 1) = true := by simp only [bne, ho, Bool.not_false]
       rw [hb]
       exact ih
      | true =>
       have hb : (st.1 != 1) = false := by simp only [bne, ho, Bool.not_true]
       rw [hb]
       cases (st.2.1 == p.2.1) with
       | false => exact ⟨_, rfl, rfl⟩
       | true => exact ih
     ·rw [hp] at ih ⊢
      have ih := ih (fun _ => rfl)
      cases ho : (st.1 == 1) with
      | false =>
       have hb : (st.1 != 1) = true := by simp only [bne, ho, Bool.not_false]
       have hs := hz (fun q => by rw [q] at ho; cases ho)
       rw [hb, hs]
       exact ih
      | true =>
       have hb : (st.1 != 1) = false := by simp only [bne, ho, Bool.not_true]
       rw [hb]
       cases (st.2.1 == p.2.1) <;> exact ⟨_, rfl, rfl⟩
     ·rw [hp]
      cases ho : (st.1 == 1) with
      | false => exact ⟨_, rfl, rfl⟩
      | true =>
       cases (st.2.1 == p.2.1) <;> exact ⟨_, rfl, rfl⟩
theorem Aqw (a0 : Dk) (a1 : Int) (a2 : Int) (a3 : Int) (a4 : Int) (a5 : Int) : Wa a0 a1 a2 a3 a4 a5 = some (((D8 a0 a1 a2 a3 a4 a5).1, (D8 a0 a1 a2 a3 a4 a5).2.1, (D8 a0 a1 a2 a3 a4 a5).2.2.1, ()), (())) := by
 unfold Wa D8 Sa
 show (bif !B8 a0 then _ else bif !E9 a5 1 8 then _ else _) = _
 cases hv : B8 a0 with
 | false => rfl
 | true =>
  have hd := Aay hv
  cases hw : E9 a5 1 8 with
  | false => rfl
  | true =>
   simp only [Bool.not_true, cond_false]
   have h200 := hd.n200
   by_cases h1 : a1 < 0
   ·rw [decide_eq_true h1, decide_eq_false (show ¬ 0 ≤ a1 by omega)]; rfl
   ·rw [decide_eq_false h1, decide_eq_true (show 0 ≤ a1 by omega)]
    by_cases h2 : a2 < 0
    ·rw [decide_eq_true h2, decide_eq_false (show ¬ 0 ≤ a2 by omega)]; rfl
    ·rw [decide_eq_false h2, decide_eq_true (show 0 ≤ a2 by omega)]
     by_cases h3 : a1 > nI a0.1.length
     ·rw [decide_eq_true h3, decide_eq_false (show ¬ a1 ≤ (a0.1.length : Int) by simp only [nI] at h3; omega)]; rfl
     ·have h3' : a1 ≤ (a0.1.length : Int) := by simp only [nI] at h3; omega
      rw [decide_eq_false h3, decide_eq_true h3']
      rw [Ad (n := nI a0.1.length - a1) (by simp only [nI]; omega) (by simp only [nI]; omega)]
      by_cases h4 : a2 > nI a0.1.length - a1
      ·rw [decide_eq_true h4, decide_eq_false (show ¬ a2 ≤ (a0.1.length : Int) - a1 by simp only [nI] at h4; omega)]; rfl
      ·have h4' : a2 ≤ (a0.1.length : Int) - a1 := by simp only [nI] at h4; omega
       rw [decide_eq_false h4, decide_eq_true h4']
       simp only [cond_false, cond_true, Bool.true_and, Bool.and_self]
       obtain ⟨f, rfl⟩ : ∃ f : Nat, a1 = (f : Int) := ⟨a1.toNat, by omega⟩
       obtain ⟨n, rfl⟩ : ∃ n : Nat, a2 = (n : Int) := ⟨a2.toNat, by omega⟩
       have hfu : n < Fr f n a3 a5 false (ByteArray.mk #[]) a4 0 a0.1 a0.2.1 0 0 0 a4 [] [] := by simp only [Fr]; omega
       obtain ⟨y, hy1, hy2⟩ := Al0 hd f n (by omega) a3 a5 0 0 [] n (Fr f n a3 a5 false (ByteArray.mk #[]) a4 0 a0.1 a0.2.1 0 0 0 a4 [] []) 0 (0, a4, z0, [], 0, a4) (Nat.zero_add _) hfu (Wh.zero _ _ _ _) (fun _ => rfl)
       show (Eo (Fr f n a3 a5 false (ByteArray.mk #[]) a4 0 a0.1 a0.2.1 0 0 0 a4 [] []) f n a3 a5 false (ByteArray.mk #[]) a4 0 a0.1 a0.2.1 0 0 0 a4 [] []).bind _ = _
       have hy1' : Eo (Fr f n a3 a5 false (ByteArray.mk #[]) a4 0 a0.1 a0.2.1 0 0 0 a4 [] []) f n a3 a5 false (ByteArray.mk #[]) a4 0 a0.1 a0.2.1 0 0 0 a4 [] [] = some y := hy1
       rw [hy1', Int.toNat_natCast]
       simp only [Option.bind_some]
       have hy3 : Att y = Lh a5 a3 (seen a0 (f : Int) 0 n) 0 (0, a4, z0, [], 0, a4) := hy2
       rw [← hy3]
       rfl
noncomputable def Y4 {R : Type} (k : Kt R) := (Iz (pa_impl_Scan 9) (.exit 0) 2 k)
noncomputable def Agi {R : Type} : Lt R pa_impl_Scan := (Ef (pat := pa_impl_Scan) 9 (fun d k => (Eo (Fr d.1 d.2.1 d.2.2.1 d.2.2.2.1 d.2.2.2.2.1 d.2.2.2.2.2.1 d.2.2.2.2.2.2.1 d.2.2.2.2.2.2.2.1 d.2.2.2.2.2.2.2.2.1 d.2.2.2.2.2.2.2.2.2.1 d.2.2.2.2.2.2.2.2.2.2.1 d.2.2.2.2.2.2.2.2.2.2.2.1 d.2.2.2.2.2.2.2.2.2.2.2.2.1 d.2.2.2.2.2.2.2.2.2.2.2.2.2.1 d.2.2.2.2.2.2.2.2.2.2.2.2.2.2.1 d.2.2.2.2.2.2.2.2.2.2.2.2.2.2.2.1) d.1 d.2.1 d.2.2.1 d.2.2.2.1 d.2.2.2.2.1 d.2.2.2.2.2.1 d.2.2.2.2.2.2.1 d.2.2.2.2.2.2.2.1 d.2.2.2.2.2.2.2.2.1 d.2.2.2.2.2.2.2.2.2.1 d.2.2.2.2.2.2.2.2.2.2.1 d.2.2.2.2.2.2.2.2.2.2.2.1 d.2.2.2.2.2.2.2.2.2.2.2.2.1 d.2.2.2.2.2.2.2.2.2.2.2.2.2.1 d.2.2.2.2.2.2.2.2.2.2.2.2.2.2.1 d.2.2.2.2.2.2.2.2.2.2.2.2.2.2.2.1).bind (Y4 k)) Fu)
theorem Aco : As Tryz.prog ta_impl_Scan := Au ⟨U2, M6, En, Agh, trivial⟩
theorem Al1 {R : Type} : Ay Tryz.prog R 140 0 pa_impl_Scan Agi co_impl_Scan_9 :=
 B6 (cfg := ⟨ta_impl_Scan, 0, 140, pa_impl_Scan⟩) 9 [] (fun NX X (d : (Int) × (Int) × (Int) × (Int) × (Bool) × (ByteArray) × (Int) × (Int) × (List ByteArray) × (List Wr) × (Int) × (Int) × (Int) × (Int) × (List ByteArray) × (List ByteArray) × Unit) => J5  NX X d.1 d.2.1 d.2.2.1 d.2.2.2.1 d.2.2.2.2.1 d.2.2.2.2.2.1 d.2.2.2.2.2.2.1 d.2.2.2.2.2.2.2.1 d.2.2.2.2.2.2.2.2.1 d.2.2.2.2.2.2.2.2.2.1 d.2.2.2.2.2.2.2.2.2.2.1 d.2.2.2.2.2.2.2.2.2.2.2.1 d.2.2.2.2.2.2.2.2.2.2.2.2.1 d.2.2.2.2.2.2.2.2.2.2.2.2.2.1 d.2.2.2.2.2.2.2.2.2.2.2.2.2.2.1 d.2.2.2.2.2.2.2.2.2.2.2.2.2.2.2.1) (fun m d => Eo m d.1 d.2.1 d.2.2.1 d.2.2.2.1 d.2.2.2.2.1 d.2.2.2.2.2.1 d.2.2.2.2.2.2.1 d.2.2.2.2.2.2.2.1 d.2.2.2.2.2.2.2.2.1 d.2.2.2.2.2.2.2.2.2.1 d.2.2.2.2.2.2.2.2.2.2.1 d.2.2.2.2.2.2.2.2.2.2.2.1 d.2.2.2.2.2.2.2.2.2.2.2.2.1 d.2.2.2.2.2.2.2.2.2.2.2.2.2.1 d.2.2.2.2.2.2.2.2.2.2.2.2.2.2.1 d.2.2.2.2.2.2.2.2.2.2.2.2.2.2.2.1) (fun d => Fr d.1 d.2.1 d.2.2.1 d.2.2.2.1 d.2.2.2.2.1 d.2.2.2.2.2.1 d.2.2.2.2.2.2.1 d.2.2.2.2.2.2.2.1 d.2.2.2.2.2.2.2.2.1 d.2.2.2.2.2.2.2.2.2.1 d.2.2.2.2.2.2.2.2.2.2.1 d.2.2.2.2.2.2.2.2.2.2.2.1 d.2.2.2.2.2.2.2.2.2.2.2.2.1 d.2.2.2.2.2.2.2.2.2.2.2.2.2.1 d.2.2.2.2.2.2.2.2.2.2.2.2.2.2.1 d.2.2.2.2.2.2.2.2.2.2.2.2.2.2.2.1) Y4 Aco trivial (fun f NX (d : (Int) × (Int) × (Int) × (Int) × (Bool) × (ByteArray) × (Int) × (Int) × (List ByteArray) × (List Wr) × (Int) × (Int) × (Int) × (Int) × (List ByteArray) × (List ByteArray) × Unit) => by unfold J5; simp only [Am, Ap, Ah, Option.bind_assoc, Option.bind_none, Option.bind_some]) (fun _ _ _ => by kernel_rfl)
theorem Aqx : Bo Tryz.prog 114 sd_impl_Scan :=
 At (pat := pa_impl_Scan) [co_impl_Scan_9] Agi Aco ⟨Al1, trivial⟩ Tryz.func114 (de := fun x => Wa x.1 x.2.1 x.2.2.1 x.2.2.2.1 x.2.2.2.2.1 x.2.2.2.2.2.1) (fun x r h => (Aqw x.1 x.2.1 x.2.2.1 x.2.2.2.1 x.2.2.2.2.1 x.2.2.2.2.2.1).trans h) fun _ => by kernel_rfl
def D3 (s : ByteArray) : (ByteArray × Bool) × ByteArray := (((Av s).1, (Av s).2.2), (Av s).2.1)
def Zz : Sig := ⟨[.bx 9 .str], [none], [.rd .str, .rd .bool], [none, none]⟩
noncomputable def sd_impl_ReadBatch_1 : SD := ⟨Zz, fun x => some (((D3 x.1).1.1, (D3 x.1).1.2, ()), ((D3 x.1).2, ()))⟩
noncomputable def Kn (a0 : ByteArray) : Option ((((ByteArray) × (Bool) × Unit) × ((ByteArray) × Unit))) :=
 bif decide (nI a0.size < 1) then some ((ByteArray.mk #[], false, ()), a0, ()) else bif decide (0 < nI a0.size) then bif decide (nI a0.size < IntKind.i64.wrap (1 + IntKind.i64.wrap (Af a0 0))) then some ((ByteArray.mk #[], false, ()), a0, ()) else bif decide (0 < nI a0.size) then bif decide (1 ≤ IntKind.i64.wrap (1 + IntKind.i64.wrap (Af a0 0))) then bif decide (IntKind.i64.wrap (1 + IntKind.i64.wrap (Af a0 0)) ≤ nI a0.size) then bif decide (0 < nI a0.size) then bif decide (0 ≤ IntKind.i64.wrap (1 + IntKind.i64.wrap (Af a0 0))) then bif decide (IntKind.i64.wrap (1 + IntKind.i64.wrap (Af a0 0)) ≤ nI a0.size) then some ((Ag a0 1 (IntKind.i64.wrap (1 + IntKind.i64.wrap (Af a0 0))), true, ()), Ag a0 (IntKind.i64.wrap (1 + IntKind.i64.wrap (Af a0 0))) (nI a0.size), ()) else none else none else none else none else none else none else none
theorem Z0 (a0 : ByteArray) : Kn a0 = some (((D3 a0).1.1, (D3 a0).1.2, ()), ((D3 a0).2, ())) := by
 unfold Kn D3 Av
 obtain ⟨b0, b1⟩ := Fw a0 0
 have hw : IntKind.i64.wrap (1 + IntKind.i64.wrap (Af a0 0)) = 1 + Af a0 0 := by
  rw [Ad (n := Af a0 0) (by omega) (by omega), Ad (by omega) (by omega)]
 rw [hw]
 by_cases h0 : (a0.size : Int) < 1
 ·rw [if_pos (Or.inl h0), decide_eq_true (show nI a0.size < 1 from h0)]
  rfl
 ·rw [decide_eq_false (show ¬ nI a0.size < 1 from h0), decide_eq_true (show 0 < nI a0.size by simp only [nI]; omega)]
  by_cases h1 : (a0.size : Int) < 1 + Af a0 0
  ·rw [if_pos (Or.inr h1), decide_eq_true (show nI a0.size < 1 + Af a0 0 from h1)]
   rfl
  ·rw [if_neg (by omega), decide_eq_false (show ¬ nI a0.size < 1 + Af a0 0 from h1), decide_eq_true (show 1 ≤ 1 + Af a0 0 by omega), decide_eq_true (show 0 ≤ 1 + Af a0 0 by omega), decide_eq_true (show 1 + Af a0 0 ≤ nI a0.size by simp only [nI]; omega)]
   rfl
theorem Z1 : Bo Tryz.prog 187 sd_impl_ReadBatch_1 :=
 At (pat := Cr) [] Fu (Au (l := []) trivial) trivial Tryz.func187 (de := fun x => Kn x.1) (fun x r h => (Z0 x.1).trans h) fun _ => by kernel_rfl
def D9 (s : ByteArray) : List Chg × Bool := Jr s
def Ko (r0 : List Chg) (b1 : ByteArray) : Nat := 22
def Acp : Sig := ⟨[.rd .str], [none], [.own 131 Du, .rd .bool], [none, none]⟩
noncomputable def sd_impl_ReadBatch : SD := ⟨Acp, fun x => some (((D9 x.1).1, (D9 x.1).2, ()), (()))⟩
noncomputable def ta_impl_ReadBatch : Tb := tb [(89, sd_impl_ValidBatch), (187, sd_impl_ReadBatch_1)]
def pa_impl_ReadBatch : Nat → Pat × (Nat → Pat) := Fe [(5, ⟨[.row 4 0 131 Du], [(4, .lf (.row 0)), (5, .lf (.ptr 1 0)), (6, .fn 187 [.ptr 1 0])], [.row 131 Du, .box 9 [.d .str]]⟩, [(2, ⟨[.row 4 0 131 Du], [(4, .lf (.row 0)), (5, .lf (.ptr 1 0))], [.row 131 Du, .box 9 [.d .str]]⟩), (1, ⟨[.row 2 0 131 Du], [(2, .lf (.row 0)), (3, .lf (.d .bool))], [.row 131 Du]⟩)])]
noncomputable def co_impl_ReadBatch_5 : Code := (Ao (A8 Tryz.f115)).getD 0 .skip
noncomputable def H9 {R : Type}  (NX : ((List Chg) × (ByteArray) × Unit) → Option R) (X2 : ((List Chg) × (ByteArray) × Unit) → Option R) (X1 : ((Bool) × (List Chg) × Unit) → Option R) (r0 : List Chg) (b1 : ByteArray) : Option R :=
 bif decide (nI b1.size > 0) then bif decide (nI r0.length ≤ 20) then bif decide (0 < nI b1.size) then bif decide (1 ≤ nI b1.size) then bif decide (Af b1 0 > 1) then X1 (false, [], ()) else bif !(Av (Ag b1 1 (nI b1.size))).2.2 then X1 (false, [], ()) else bif Af b1 0 == 0 then bif !(Av (Av (Ag b1 1 (nI b1.size))).2.1).2.2 then X1 (false, [], ()) else bif decide ((r0.length + [((Av (Ag b1 1 (nI b1.size))).1, (Av (Av (Ag b1 1 (nI b1.size))).2.1).1, Af b1 0 == 1, ())].length) * 40 ≤ 140737488355328) then NX (r0 ++ [((Av (Ag b1 1 (nI b1.size))).1, (Av (Av (Ag b1 1 (nI b1.size))).2.1).1, Af b1 0 == 1, ())], (Av (Av (Ag b1 1 (nI b1.size))).2.1).2.1, ()) else none else bif decide ((r0.length + [((Av (Ag b1 1 (nI b1.size))).1, ByteArray.mk #[], Af b1 0 == 1, ())].length) * 40 ≤ 140737488355328) then NX (r0 ++ [((Av (Ag b1 1 (nI b1.size))).1, ByteArray.mk #[], Af b1 0 == 1, ())], (Av (Ag b1 1 (nI b1.size))).2.1, ()) else none else none else none else X2 (r0, b1, ()) else X2 (r0, b1, ())
noncomputable def Es : Nat → (List Chg) → (ByteArray) →  Option (((List Chg) × (ByteArray) × Unit) ⊕ ((Bool) × (List Chg) × Unit))
 | 0, _, _ => none
 | m + 1, r0, b1 => H9  (fun d => Es m d.1 d.2.1) (fun d => some (.inl (d))) (fun d => some (.inr (d))) r0 b1
noncomputable def Na (a0 : ByteArray) : Option ((((List Chg) × (Bool) × Unit) × (Unit))) :=
 ((fun d => Es (Ko d.1 d.2.1) d.1 d.2.1) ([], a0, ())).bind fun val => Cs (fun val => bif decide (nI (ByteArray.size val.2.1) > 0) then some (([], false, ()), ()) else bif !F0 val.1 then some (([], false, ()), ()) else some ((val.1, true, ()), ())) (fun val => some ((val.2.1, val.1, ()), ())) val
def A3u (o : Option (List Chg × ByteArray)) : (List Chg × ByteArray × Unit) ⊕ (Bool × List Chg × Unit) := match o with
 | some (b, t) => .inl (b, t, ())
 | none => .inr (false, [], ())
theorem Al2 : ∀ (f m : Nat) (r : List Chg) (s : ByteArray), r.length + f = 22 → f ≤ m → 1 ≤ f → Es m r s = some (A3u (Lc true f r s))
 | 0, _, _, _, _, _, h => by omega
 | f + 1, 0, _, _, _, h, _ => by omega
 | f + 1, m + 1, r, s, hf, hm, _ => by
  simp only [Es, H9, Lc]
  by_cases hs : s.size > 0
  ·rw [decide_eq_true (show nI s.size > 0 by simp only [nI]; omega), decide_eq_true hs]
   by_cases hr : r.length ≤ 20
   ·rw [decide_eq_true (show nI r.length ≤ 20 by simp only [nI]; omega), decide_eq_true hr, decide_eq_true (show 1 ≤ nI s.size by simp only [nI]; omega)]
    unfold Afu
    obtain ⟨b0, b1⟩ := Fw s 0
    generalize Av (Ag s 1 (nI s.size)) = p
    simp only [List.length_singleton, Bool.true_and, cond_true, Bool.and_self]
    rw [decide_eq_true (show (r.length + 1) * 40 ≤ 140737488355328 by omega)]
    by_cases h1 : Af s 0 > 1
    ·rw [decide_eq_true h1]; rfl
    ·rw [decide_eq_false h1]
     obtain ⟨k, t, o⟩ := p
     cases o
     ·rfl
     ·by_cases h2 : Af s 0 = 0
      ·rw [h2]
       simp only [Bool.not_true, cond_false, cond_true]
       generalize Av t = q
       obtain ⟨v, u, o⟩ := q
       cases o
       ·rfl
       ·exact Al2 f m (r ++ [(k, v, false, ())]) u (by rw [List.length_append, List.length_singleton]; omega) (by omega) (by omega)
      ·have h3 : Af s 0 = 1 := by omega
       rw [h3]
       exact Al2 f m (r ++ [(k, ByteArray.mk #[], true, ())]) t (by rw [List.length_append, List.length_singleton]; omega) (by omega) (by omega)
   ·rw [decide_eq_false (show ¬ nI r.length ≤ 20 by simp only [nI]; omega), decide_eq_false hr]
    rfl
  ·rw [decide_eq_false (show ¬ nI s.size > 0 by simp only [nI]; omega), decide_eq_false hs]
   rfl
theorem Acq (a0 : ByteArray) : Na a0 = some (((D9 a0).1, (D9 a0).2, ()), (())) := by
 unfold Na D9 Jr
 have hL := Al2 22 22 [] a0 rfl (Nat.le_refl _) (by omega)
 refine Tk hL ?_
 cases Lc true 22 [] a0 with
 | none => rfl
 | some bt =>
  obtain ⟨b, t⟩ := bt
  show (bif decide (nI t.size > 0) then _ else (bif !Bd b then _ else _)) = _
  have e : decide (nI t.size > 0) = decide (t.size > 0) := decide_eq_decide.2 (by simp only [nI]; omega)
  rw [e]
  simp only
  cases decide (t.size > 0) <;> cases Bd b <;> rfl
noncomputable def Ps {R : Type} (k : Kt R) := (Cs (Iz (pa_impl_ReadBatch 5) (.exit 0) 2 k) (Iz (pa_impl_ReadBatch 5) .ret 1 k))
noncomputable def U4 {R : Type} : Lt R pa_impl_ReadBatch := (Ef (pat := pa_impl_ReadBatch) 5 (fun d k => (Es (Ko d.1 d.2.1) d.1 d.2.1).bind (Ps k)) Fu)
theorem S1 : As Tryz.prog ta_impl_ReadBatch := Au ⟨Lm, Z1, trivial⟩
theorem Z2 {R : Type} : Ay Tryz.prog R 63 0 pa_impl_ReadBatch U4 co_impl_ReadBatch_5 :=
 B6 (cfg := ⟨ta_impl_ReadBatch, 0, 63, pa_impl_ReadBatch⟩) 5 [] (fun NX X d => H9  NX (fun e => X (.inl (e))) (fun e => X (.inr (e))) d.1 d.2.1) (fun m d => Es m d.1 d.2.1) (fun d => Ko d.1 d.2.1) Ps S1 trivial (fun f NX d => by unfold H9; simp only [Am, Ap, Ah, Option.bind_assoc, Option.bind_none, Option.bind_some]) (fun _ _ _ => by kernel_rfl)
theorem Acr : Bo Tryz.prog 115 sd_impl_ReadBatch :=
 At (pat := pa_impl_ReadBatch) [co_impl_ReadBatch_5] U4 S1 ⟨Z2, trivial⟩ Tryz.func115 (de := fun x => Na x.1) (fun x r h => (Acq x.1).trans h) fun _ => by kernel_rfl
def Rs (e : ByteArray) (life first w : Int) : Option (List ByteArray) := if e.size ≤ 1048576 then some (Adn e life first w) else none
def Jo (v0 : ByteArray) (v1 v2 v3 v9 v11 : Int) (r0 : List ByteArray) : Nat := (v9 - v11).toNat + 1
def Atu : Sig := ⟨[.rd .str, .rd tI, .rd tI, .rd tI], [none, none, none, none], [.own 9 .str], [none]⟩
noncomputable def sd_impl_Cut : SD := ⟨Atu, fun x => (Rs x.1 x.2.1 x.2.2.1 x.2.2.2.1).bind fun r => some ((r, ()), (()))⟩
noncomputable def ta_impl_Cut : Tb := tb [(112, sd_impl_in), (116, sd_impl_FormPage), (157, sd_impl_room), (173, sd_impl_Pages)]
def pa_impl_Cut : Nat → Pat × (Nat → Pat) := Fe [(7, ⟨[.row 10 0 9 .str], [(0, .lf (.d .str)), (1, .lf (.d tI)), (2, .lf (.d tI)), (3, .lf (.d tI)), (9, .lf (.d tI)), (10, .lf (.row 0)), (11, .lf (.d tI))], [.row 9 .str]⟩, [(2, ⟨[.row 10 0 9 .str], [(10, .lf (.row 0))], [.row 9 .str]⟩)])]
noncomputable def co_impl_Cut_7 : Code := (Ao (A8 Tryz.f93)).getD 0 .skip
noncomputable def K5 {R : Type}  (NX : ((ByteArray) × (Int) × (Int) × (Int) × (Int) × (Int) × (List ByteArray) × Unit) → Option R) (X2 : ((List ByteArray) × Unit) → Option R) (v0 : ByteArray) (v1 : Int) (v2 : Int) (v3 : Int) (v9 : Int) (v11 : Int) (r0 : List ByteArray) : Option R :=
 bif decide (v11 < v9) then bif v11 == IntKind.i64.wrap (v9 - 1) then bif decide ((r0.length + [Cc (2, v1, IntKind.i64.wrap (v2 + v11), v0, ()) v3].length) * 16 ≤ 140737488355328) then NX (v0, v1, v2, v3, v9, IntKind.i64.wrap (v11 + 1), r0 ++ [Cc (2, v1, IntKind.i64.wrap (v2 + v11), v0, ()) v3], ()) else none else bif decide (0 ≤ IntKind.i64.wrap (IntKind.i64.wrap (64 - v3) - 8)) then bif decide (IntKind.i64.wrap (IntKind.i64.wrap (64 - v3) - 8) ≤ nI v0.size) then bif decide (0 ≤ IntKind.i64.wrap (IntKind.i64.wrap (64 - v3) - 8)) then bif decide (IntKind.i64.wrap (IntKind.i64.wrap (64 - v3) - 8) ≤ nI v0.size) then bif decide ((r0.length + [Cc (1, v1, IntKind.i64.wrap (v2 + v11), Ag v0 0 (IntKind.i64.wrap (IntKind.i64.wrap (64 - v3) - 8)), ()) v3].length) * 16 ≤ 140737488355328) then NX (Ag v0 (IntKind.i64.wrap (IntKind.i64.wrap (64 - v3) - 8)) (nI v0.size), v1, v2, v3, v9, IntKind.i64.wrap (v11 + 1), r0 ++ [Cc (1, v1, IntKind.i64.wrap (v2 + v11), Ag v0 0 (IntKind.i64.wrap (IntKind.i64.wrap (64 - v3) - 8)), ()) v3], ()) else none else none else none else none else none else X2 (r0, ())
noncomputable def Fd : Nat → (ByteArray) → (Int) → (Int) → (Int) → (Int) → (Int) → (List ByteArray) →  Option ((List ByteArray) × Unit)
 | 0, _, _, _, _, _, _, _ => none
 | m + 1, v0, v1, v2, v3, v9, v11, r0 => K5  (fun d => Fd m d.1 d.2.1 d.2.2.1 d.2.2.2.1 d.2.2.2.2.1 d.2.2.2.2.2.1 d.2.2.2.2.2.2.1) (fun d => some (d)) v0 v1 v2 v3 v9 v11 r0
noncomputable def Y5 (a0 : ByteArray) (a1 : Int) (a2 : Int) (a3 : Int) : Option ((((List ByteArray) × Unit) × (Unit))) :=
 ((I5 a0 a3).bind fun val => some ((val, ()), ())).bind fun val => bif val.1.1 == 0 then some (([], ()), ()) else bif !Cg a1 1 60000 then some (([], ()), ()) else bif decide (a2 < 1) then some (([], ()), ()) else bif decide (a2 > IntKind.i64.wrap (IntKind.i64.wrap (1000000000 - val.1.1) + 1)) then some (([], ()), ()) else ((fun d => Fd (Jo d.1 d.2.1 d.2.2.1 d.2.2.2.1 d.2.2.2.2.1 d.2.2.2.2.2.1 d.2.2.2.2.2.2.1) d.1 d.2.1 d.2.2.1 d.2.2.2.1 d.2.2.2.2.1 d.2.2.2.2.2.1 d.2.2.2.2.2.2.1) (a0, a1, a2, a3, val.1.1, 0, [], ())).bind fun val => some (val, ())
theorem Az6 (life first w : Int) (n N : Nat) (hn : 56 - w = (n : Int)) (hw1 : 1 ≤ w) (hw8 : w ≤ 8) (hf1 : 1 ≤ first) (hf2 : first ≤ 1000000000) (hN : N ≤ 2000000) : ∀ (f m i : Nat) (s : ByteArray) (r : List ByteArray), s.size ≤ f → i + (Ez n f s).length = N → (Ez n f s).length < m → r.length = i →
  Fd m s life first w N i r = some (r ++ Afv life w (first + (i : Int)) (Ez n f s), ()) := by
 have one : ∀ (m i : Nat) (s : ByteArray) (r : List ByteArray), i + 1 = N → 1 < m → r.length = i → Fd m s life first w N i r = some (r ++ Afv life w (first + (i : Int)) [s], ()) := by
  intro m i s r hi hm hr
  obtain ⟨m, rfl⟩ : ∃ k, m = k + 2 := ⟨m - 2, by omega⟩
  simp only [Fd, K5]
  rw [decide_eq_true (show (i : Int) < (N : Int) by omega), Ad (n := (N : Int) - 1) (by omega) (by omega), show (N : Int) - 1 = (i : Int) by omega, beq_self_eq_true, Ad (n := first + (i : Int)) (by omega) (by omega), Ad (n := (i : Int) + 1) (by omega) (by omega), List.length_singleton, decide_eq_true (show (r.length + 1) * 16 ≤ 140737488355328 by omega), decide_eq_false (show ¬ ((i : Int) + 1 < (N : Int)) by omega)]
  rfl
 intro f
 induction f with
 | zero =>
  intro m i s r hs hi hm hr
  exact one m i s r hi hm hr
 | succ f ih =>
  intro m i s r hs hi hm hr
  by_cases q : s.size > n
  ·simp only [Ez, if_pos q, List.length_cons] at hi hm ⊢
   have hc : (Ag s n (nI s.size)).size = s.size - n := by rw [E3 (by omega) (by simp only [nI]; omega) (by simp [nI])]; simp only [nI]; omega
   obtain ⟨m, rfl⟩ : ∃ k, m = k + 1 := ⟨m - 1, by omega⟩
   have hL : 1 ≤ (Ez n f (Ag s n (nI s.size))).length := by
    cases f with
    | zero => simp [Ez]
    | succ f => unfold Ez; split <;> simp
   have ih := ih m (i + 1) (Ag s n (nI s.size)) (r ++ [Db (1, life, first + (i : Int), Ag s 0 n, ()) w]) (by omega) (by omega) (by omega) (by rw [List.length_append, List.length_singleton, hr])
   simp only [Fd, K5]
   rw [decide_eq_true (show (i : Int) < (N : Int) by omega), Ad (n := (N : Int) - 1) (by omega) (by omega), beq_eq_false_iff_ne.2 (show (i : Int) ≠ (N : Int) - 1 by omega), Ad (n := first + (i : Int)) (by omega) (by omega), wI (show i < 4611686018427387904 by omega), Ad (n := 64 - w) (by omega) (by omega), Ad (n := 64 - w - 8) (by omega) (by omega), show 64 - w - 8 = (n : Int) by omega, decide_eq_true (show (0 : Int) ≤ (n : Int) by omega), decide_eq_true (show (n : Int) ≤ nI s.size by simp only [nI]; omega), List.length_singleton, List.length_singleton, decide_eq_true (show (r.length + 1) * 16 ≤ 140737488355328 by omega)]
   refine Eq.trans ih ?_
   rw [List.append_assoc, show first + ((i + 1 : Nat) : Int) = first + (i : Int) + 1 by omega]
   generalize Ez n f (Ag s n (nI s.size)) = L at *
   cases L with
   | nil => simp at hL
   | cons a b => rfl
  ·simp only [Ez, if_neg q, List.length_singleton] at hi hm ⊢
   exact one m i s r hi hm hr
theorem Atv (a0 : ByteArray) (a1 : Int) (a2 : Int) (a3 : Int) r (h : Rs a0 a1 a2 a3 = some r) : Y5 a0 a1 a2 a3 = some ((r, ()), (())) := by
 unfold Rs at h
 split at h
 rotate_left
 ·cases h
 rename_i hc
 cases h
 have n1 : I5 a0 a3 = some (Eg a0.size a3) := if_pos (by omega)
 unfold Y5 Adn
 refine Tk (Tk n1 rfl) ?_
 show (bif Eg a0.size a3 == 0 then _ else (bif !E9 a1 1 60000 then _ else _)) = _
 cases hw : E9 a3 1 8 with
 | false =>
  have : Eg a0.size a3 = 0 := by unfold Eg; rw [hw]; rfl
  rw [this]
  rfl
 | true =>
  obtain ⟨k1, k2⟩ := Hb hw
  have hp := n0 (s := a0) hw
  have hP : Eg a0.size a3 = ((Ci a0 a3).length : Int) := by unfold Eg; rw [hw]; exact hp.symm
  have hlen : (Ci a0 a3).length ≤ a0.size + 1 := X5 _ _ _
  have h1 : 1 ≤ (Ci a0 a3).length := by
   have : (1 : Int) ≤ ((Ci a0 a3).length : Int) := by rw [hp]; split <;> omega
   omega
  rw [hP, beq_eq_false_iff_ne.2 (show ((Ci a0 a3).length : Int) ≠ 0 by omega)]
  cases hl : E9 a1 1 60000 with
  | false => rfl
  | true =>
   show (bif decide (a2 < 1) then _ else (bif decide (a2 > IntKind.i64.wrap (IntKind.i64.wrap (1000000000 - ((Ci a0 a3).length : Int)) + 1)) then _ else (Option.bind (Fd (Jo a0 a1 a2 a3 ((Ci a0 a3).length : Int) 0 []) a0 a1 a2 a3 ((Ci a0 a3).length : Int) 0 []) _))) = _
   rw [Ad (n := 1000000000 - ((Ci a0 a3).length : Int)) (by omega) (by omega), Ad (n := 1000000000 - ((Ci a0 a3).length : Int) + 1) (by omega) (by omega)]
   by_cases q1 : a2 < 1
   ·rw [decide_eq_true q1, decide_eq_false (show ¬ 1 ≤ a2 by omega)]; rfl
   ·rw [decide_eq_false q1, decide_eq_true (show 1 ≤ a2 by omega)]
    by_cases q2 : a2 > 1000000000 - ((Ci a0 a3).length : Int) + 1
    ·rw [decide_eq_true q2, decide_eq_false (show ¬ a2 ≤ 1000000000 - ((Ci a0 a3).length : Int) + 1 by omega)]; rfl
    ·rw [decide_eq_false q2, decide_eq_true (show a2 ≤ 1000000000 - ((Ci a0 a3).length : Int) + 1 by omega)]
     obtain ⟨n, hn⟩ : ∃ n : Nat, 56 - a3 = (n : Int) := ⟨(56 - a3).toNat, by omega⟩
     have hS : Ci a0 a3 = Ez n a0.size a0 := by unfold Ci; rw [hn, Int.toNat_natCast]
     have hL := Az6 a1 a2 a3 n (Ci a0 a3).length hn k1 k2 (by omega) (by omega) (by omega) a0.size (Jo a0 a1 a2 a3 ((Ci a0 a3).length : Int) 0 []) 0 a0 [] (Nat.le_refl _) (by rw [← hS]; omega) (by rw [← hS]; simp only [Jo]; omega) rfl
     rw [← hS, List.nil_append, show a2 + ((0 : Nat) : Int) = a2 by omega] at hL
     exact Tk hL rfl
noncomputable def j5 {R : Type} (k : Kt R) := (Iz (pa_impl_Cut 7) (.exit 0) 2 k)
noncomputable def Al3 {R : Type} : Lt R pa_impl_Cut := (Ef (pat := pa_impl_Cut) 7 (fun d k => (Fd (Jo d.1 d.2.1 d.2.2.1 d.2.2.2.1 d.2.2.2.2.1 d.2.2.2.2.2.1 d.2.2.2.2.2.2.1) d.1 d.2.1 d.2.2.1 d.2.2.2.1 d.2.2.2.2.1 d.2.2.2.2.2.1 d.2.2.2.2.2.2.1).bind (j5 k)) Fu)
theorem Agj : As Tryz.prog ta_impl_Cut := Au ⟨En, Iu, P5, g9, trivial⟩
theorem Am9 {R : Type} : Ay Tryz.prog R 67 0 pa_impl_Cut Al3 co_impl_Cut_7 :=
 B6 (cfg := ⟨ta_impl_Cut, 0, 67, pa_impl_Cut⟩) 7 [] (fun NX X d => K5  NX X d.1 d.2.1 d.2.2.1 d.2.2.2.1 d.2.2.2.2.1 d.2.2.2.2.2.1 d.2.2.2.2.2.2.1) (fun m d => Fd m d.1 d.2.1 d.2.2.1 d.2.2.2.1 d.2.2.2.2.1 d.2.2.2.2.2.1 d.2.2.2.2.2.2.1) (fun d => Jo d.1 d.2.1 d.2.2.1 d.2.2.2.1 d.2.2.2.2.1 d.2.2.2.2.2.1 d.2.2.2.2.2.2.1) j5 Agj trivial (fun f NX d => by unfold K5; simp only [Am, Ap, Ah, Option.bind_assoc, Option.bind_none, Option.bind_some]) (fun _ _ _ => by kernel_rfl)
theorem Atw : Bo Tryz.prog 93 sd_impl_Cut :=
 At (pat := pa_impl_Cut) [co_impl_Cut_7] Al3 Agj ⟨Am9, trivial⟩ Tryz.func93 (de := fun x => Y5 x.1 x.2.1 x.2.2.1 x.2.2.2.1) (fun x r h => Az (Atv x.1 x.2.1 x.2.2.1 x.2.2.2.1) h) fun _ => by kernel_rfl
def Iw (s : Stt) : Option Stt := if s.1.length ≤ 1000000 then some (s.1, ()) else none
def Acs : Sig := ⟨[.rd Py], [some 1], [.own 167 Aq], [some 1]⟩
noncomputable def sd_impl_copyState : SD := ⟨Acs, fun x => (Iw x.1).bind fun r => some ((r.1, ()), (()))⟩
noncomputable def Nb (a0 : Stt) : Option ((Stt × (Unit))) :=
 bif decide ((0 + List.length a0.1) * 32 ≤ 140737488355328) then some (([] ++ a0.1, ()), ()) else none
theorem Acu (a0 : Stt) r (h : Iw a0 = some r) : Nb a0 = some ((r.1, ()), (())) := by
 unfold Iw at h
 split at h
 ·rename_i hc
  cases h
  unfold Nb
  rw [decide_eq_true (show (0 + a0.1.length) * 32 ≤ 140737488355328 by omega)]
  rfl
 ·cases h
theorem Acv : Bo Tryz.prog 139 sd_impl_copyState :=
 At (pat := Cr) [] Fu (Au (l := []) trivial) trivial Tryz.func139 (de := fun x => Nb x.1) (fun x r h => Az (Acu x.1) h) fun _ => by kernel_rfl
def Hj (r : Rt) (w : Int) : ByteArray := Qk r w
def Ae7 : Sig := ⟨[.rd yRt, .rd tI], [some 4, none], [.rd .str], [none]⟩
noncomputable def sd_impl_RootPage : SD := ⟨Ae7, fun x => some (((Hj x.1 x.2.1), ()), (()))⟩
noncomputable def Od (a0 : Rt) (a1 : Int) : Option ((((ByteArray) × Unit) × (Unit))) :=
 bif !Iv a0 then some ((ByteArray.mk #[], ()), ()) else some ((Cc (4, a0.2.2.2.1, a0.1, Cv a0.2.1 (Int.toNat 1) ++ Cv a0.2.2.1 (Int.toNat 4), ()) a1, ()), ())
theorem Ae8 (a0 : Rt) (a1 : Int) : Od a0 a1 = some (((Hj a0 a1), ()), (())) := by
 unfold Od Hj Qk
 show (bif !L9 a0 then _ else _) = _
 cases L9 a0 <;> rfl
theorem Ae9 : Bo Tryz.prog 191 sd_impl_RootPage :=
 At (pat := Cr) [] Fu (Au (l := [(116, sd_impl_FormPage), (168, sd_impl_validRoot), (175, sd_impl_be)]) ⟨Iu, S0, V8, trivial⟩) trivial Tryz.func191 (de := fun x => Od x.1 x.2.1) (fun x r h => (Ae8 x.1 x.2.1).trans h) fun _ => by kernel_rfl
def O1 (s : Sto) (life : Int) : Option (Sto × List Opn × Bool) := if Ap2 s then some (Aa0 s life) else none
def Aqy : Sig := ⟨[.rd m7, .rd tI], [some 10, none], [.rd tI, .rd tI, .rd tI, .rd tI, .rd tI, .rd tI, .rd tI, .rd tI, .rd tI, .own 167 Aq, .own 126 B7, .rd .bool], [some 10, none, none]⟩
noncomputable def sd_impl_move : SD := ⟨Aqy, fun x => (O1 x.1 x.2.1).bind fun r => some ((r.1.1, r.1.2.1, r.1.2.2.1, r.1.2.2.2.1.1, r.1.2.2.2.1.2.1, r.1.2.2.2.1.2.2.1, r.1.2.2.2.1.2.2.2.1, r.1.2.2.2.2.1, r.1.2.2.2.2.2.1, r.1.2.2.2.2.2.2.1.1, r.2.1, r.2.2, ()), (()))⟩
noncomputable def ta_impl_move : Tb := tb [(91, sd_impl_Halves), (93, sd_impl_Cut), (94, sd_impl_FormBatch), (95, sd_impl_begin), (116, sd_impl_FormPage), (139, sd_impl_copyState), (172, sd_impl_Snapshot), (191, sd_impl_RootPage)]
def pa_impl_move : Nat → Pat × (Nat → Pat) := Fe [(8, ⟨[.row 9 0 9 .str, .sl 52 0 (.sl Du), .boxSl 2 9 Aq, .boxRow 4 9 167 Aq], [(1, .lf (.d tI)), (2, .lf (.ptr 0 0)), (4, .lf (.ptr 1 0)), (8, .lf (.ptr 2 0)), (9, .lf (.row 3)), (52, .lf (.d (.sl (.sl Du)))), (53, .lf (.d tI)), (54, .lf (.d tI))], [.box 33 [.d tI, .d tI, .d tI, .d tI, .d tI, .d tI, .d tI, .d tI, .d tI, .d (.sl Aq)], .box 33 [.d tI, .d tI, .d tI, .d tI, .d tI, .d tI, .d tI, .d tI, .d tI, .row 4], .box 28 [.d tI, .d tI, .d tI, .d tI], .row 9 .str, .row 167 Aq]⟩, [(2, ⟨[.row 9 0 9 .str, .boxSl 2 9 Aq, .boxRow 4 9 167 Aq], [(1, .lf (.d tI)), (2, .lf (.ptr 0 0)), (4, .lf (.ptr 1 0)), (8, .lf (.ptr 2 0)), (9, .lf (.row 3))], [.box 33 [.d tI, .d tI, .d tI, .d tI, .d tI, .d tI, .d tI, .d tI, .d tI, .d (.sl Aq)], .box 33 [.d tI, .d tI, .d tI, .d tI, .d tI, .d tI, .d tI, .d tI, .d tI, .row 4], .box 28 [.d tI, .d tI, .d tI, .d tI], .row 9 .str, .row 167 Aq]⟩)]), (14, ⟨[.sl 9 0 .str, .row 12 0 126 B7, .sl 72 0 .str, .boxSl 2 9 Aq, .boxRow 4 9 167 Aq], [(1, .lf (.d tI)), (2, .lf (.ptr 0 0)), (4, .lf (.ptr 1 0)), (8, .lf (.ptr 2 0)), (9, .lf (.d (.sl .str))), (12, .lf (.row 3)), (72, .lf (.d (.sl .str))), (73, .lf (.d tI)), (74, .lf (.d tI))], [.box 33 [.d tI, .d tI, .d tI, .d tI, .d tI, .d tI, .d tI, .d tI, .d tI, .d (.sl Aq)], .box 33 [.d tI, .d tI, .d tI, .d tI, .d tI, .d tI, .d tI, .d tI, .d tI, .row 4], .box 28 [.d tI, .d tI, .d tI, .d tI], .row 126 B7, .row 167 Aq]⟩, [(4, ⟨[.sl 9 0 .str, .row 12 0 126 B7, .boxSl 2 9 Aq, .boxRow 4 9 167 Aq], [(1, .lf (.d tI)), (2, .lf (.ptr 0 0)), (4, .lf (.ptr 1 0)), (8, .lf (.ptr 2 0)), (9, .lf (.d (.sl .str))), (12, .lf (.row 3))], [.box 33 [.d tI, .d tI, .d tI, .d tI, .d tI, .d tI, .d tI, .d tI, .d tI, .d (.sl Aq)], .box 33 [.d tI, .d tI, .d tI, .d tI, .d tI, .d tI, .d tI, .d tI, .d tI, .row 4], .box 28 [.d tI, .d tI, .d tI, .d tI], .row 126 B7, .row 167 Aq]⟩)])]
noncomputable def co_impl_move_8 : Code := (Ao (A8 Tryz.f117)).getD 0 .skip
noncomputable def co_impl_move_14 : Code := (Ao (A8 Tryz.f117)).getD 1 .skip
def Hk (v1 : Int) (v9 : List ByteArray) (v72 : List ByteArray) (v73 : Int) (v74 : Int) (b0_0 : Int) (b0_1 : Int) (b0_2 : Int) (b0_3 : Int) (b0_4 : Int) (b0_5 : Int) (b0_6 : Int) (b0_7 : Int) (b0_8 : Int) (b0_9 : List Pr2) (b1_0 : Int) (b1_1 : Int) (b1_2 : Int) (b1_3 : Int) (b1_4 : Int) (b1_5 : Int) (b1_6 : Int) (b1_7 : Int) (b1_8 : Int) (b2_0 : Int) (b2_1 : Int) (b2_2 : Int) (b2_3 : Int) (r3 : List Opn) (r4 : List Pr2) : Nat := (v73 - v74).toNat + 1
noncomputable def Ji {R : Type}  (NX : ((Int) × (List ByteArray) × (List ByteArray) × (Int) × (Int) × (Int) × (Int) × (Int) × (Int) × (Int) × (Int) × (Int) × (Int) × (Int) × (List Pr2) × (Int) × (Int) × (Int) × (Int) × (Int) × (Int) × (Int) × (Int) × (Int) × (Int) × (Int) × (Int) × (Int) × (List Opn) × (List Pr2) × Unit) → Option R) (X4 : ((Int) × (List ByteArray) × (Int) × (Int) × (Int) × (Int) × (Int) × (Int) × (Int) × (Int) × (Int) × (List Pr2) × (Int) × (Int) × (Int) × (Int) × (Int) × (Int) × (Int) × (Int) × (Int) × (Int) × (Int) × (Int) × (Int) × (List Opn) × (List Pr2) × Unit) → Option R) (v1 : Int) (v9 : List ByteArray) (v72 : List ByteArray) (v73 : Int) (v74 : Int) (b0_0 : Int) (b0_1 : Int) (b0_2 : Int) (b0_3 : Int) (b0_4 : Int) (b0_5 : Int) (b0_6 : Int) (b0_7 : Int) (b0_8 : Int) (b0_9 : List Pr2) (b1_0 : Int) (b1_1 : Int) (b1_2 : Int) (b1_3 : Int) (b1_4 : Int) (b1_5 : Int) (b1_6 : Int) (b1_7 : Int) (b1_8 : Int) (b2_0 : Int) (b2_1 : Int) (b2_2 : Int) (b2_3 : Int) (r3 : List Opn) (r4 : List Pr2) : Option R :=
 bif decide (v74 < v73) then bif decide (0 ≤ v74) then bif decide (v74 < nI v72.length) then bif decide ((r3.length + [(false, IntKind.i64.wrap (Cx b2_1 b0_1 + v74), v72.getD v74.toNat (ByteArray.mk #[]), ())].length) * 32 ≤ 140737488355328) then NX (v1, v9, v72, v73, IntKind.i64.wrap (v74 + 1), b0_0, b0_1, b0_2, b0_3, b0_4, b0_5, b0_6, b0_7, b0_8, b0_9, b1_0, b1_1, b1_2, b1_3, b1_4, b1_5, b1_6, b1_7, b1_8, b2_0, b2_1, b2_2, b2_3, r3 ++ [(false, IntKind.i64.wrap (Cx b2_1 b0_1 + v74), v72.getD v74.toNat (ByteArray.mk #[]), ())], r4, ()) else none else none else none else X4 (v1, v9, b0_0, b0_1, b0_2, b0_3, b0_4, b0_5, b0_6, b0_7, b0_8, b0_9, b1_0, b1_1, b1_2, b1_3, b1_4, b1_5, b1_6, b1_7, b1_8, b2_0, b2_1, b2_2, b2_3, r3, r4, ())
noncomputable def C9 : Nat → (Int) → (List ByteArray) → (List ByteArray) → (Int) → (Int) → (Int) → (Int) → (Int) → (Int) → (Int) → (Int) → (Int) → (Int) → (Int) → (List Pr2) → (Int) → (Int) → (Int) → (Int) → (Int) → (Int) → (Int) → (Int) → (Int) → (Int) → (Int) → (Int) → (Int) → (List Opn) → (List Pr2) →  Option ((Int) × (List ByteArray) × (Int) × (Int) × (Int) × (Int) × (Int) × (Int) × (Int) × (Int) × (Int) × (List Pr2) × (Int) × (Int) × (Int) × (Int) × (Int) × (Int) × (Int) × (Int) × (Int) × (Int) × (Int) × (Int) × (Int) × (List Opn) × (List Pr2) × Unit)
 | 0, _, _, _, _, _, _, _, _, _, _, _, _, _, _, _, _, _, _, _, _, _, _, _, _, _, _, _, _, _, _ => none
 | m + 1, v1, v9, v72, v73, v74, b0_0, b0_1, b0_2, b0_3, b0_4, b0_5, b0_6, b0_7, b0_8, b0_9, b1_0, b1_1, b1_2, b1_3, b1_4, b1_5, b1_6, b1_7, b1_8, b2_0, b2_1, b2_2, b2_3, r3, r4 => Ji  (fun d => C9 m d.1 d.2.1 d.2.2.1 d.2.2.2.1 d.2.2.2.2.1 d.2.2.2.2.2.1 d.2.2.2.2.2.2.1 d.2.2.2.2.2.2.2.1 d.2.2.2.2.2.2.2.2.1 d.2.2.2.2.2.2.2.2.2.1 d.2.2.2.2.2.2.2.2.2.2.1 d.2.2.2.2.2.2.2.2.2.2.2.1 d.2.2.2.2.2.2.2.2.2.2.2.2.1 d.2.2.2.2.2.2.2.2.2.2.2.2.2.1 d.2.2.2.2.2.2.2.2.2.2.2.2.2.2.1 d.2.2.2.2.2.2.2.2.2.2.2.2.2.2.2.1 d.2.2.2.2.2.2.2.2.2.2.2.2.2.2.2.2.1 d.2.2.2.2.2.2.2.2.2.2.2.2.2.2.2.2.2.1 d.2.2.2.2.2.2.2.2.2.2.2.2.2.2.2.2.2.2.1 d.2.2.2.2.2.2.2.2.2.2.2.2.2.2.2.2.2.2.2.1 d.2.2.2.2.2.2.2.2.2.2.2.2.2.2.2.2.2.2.2.2.1 d.2.2.2.2.2.2.2.2.2.2.2.2.2.2.2.2.2.2.2.2.2.1 d.2.2.2.2.2.2.2.2.2.2.2.2.2.2.2.2.2.2.2.2.2.2.1 d.2.2.2.2.2.2.2.2.2.2.2.2.2.2.2.2.2.2.2.2.2.2.2.1 d.2.2.2.2.2.2.2.2.2.2.2.2.2.2.2.2.2.2.2.2.2.2.2.2.1 d.2.2.2.2.2.2.2.2.2.2.2.2.2.2.2.2.2.2.2.2.2.2.2.2.2.1 d.2.2.2.2.2.2.2.2.2.2.2.2.2.2.2.2.2.2.2.2.2.2.2.2.2.2.1 d.2.2.2.2.2.2.2.2.2.2.2.2.2.2.2.2.2.2.2.2.2.2.2.2.2.2.2.1 d.2.2.2.2.2.2.2.2.2.2.2.2.2.2.2.2.2.2.2.2.2.2.2.2.2.2.2.2.1 d.2.2.2.2.2.2.2.2.2.2.2.2.2.2.2.2.2.2.2.2.2.2.2.2.2.2.2.2.2.1) (fun d => some (d)) v1 v9 v72 v73 v74 b0_0 b0_1 b0_2 b0_3 b0_4 b0_5 b0_6 b0_7 b0_8 b0_9 b1_0 b1_1 b1_2 b1_3 b1_4 b1_5 b1_6 b1_7 b1_8 b2_0 b2_1 b2_2 b2_3 r3 r4
def Ix (v1 : Int) (v52 : List (List Chg)) (v53 : Int) (v54 : Int) (b0_0 : Int) (b0_1 : Int) (b0_2 : Int) (b0_3 : Int) (b0_4 : Int) (b0_5 : Int) (b0_6 : Int) (b0_7 : Int) (b0_8 : Int) (b0_9 : List Pr2) (b1_0 : Int) (b1_1 : Int) (b1_2 : Int) (b1_3 : Int) (b1_4 : Int) (b1_5 : Int) (b1_6 : Int) (b1_7 : Int) (b1_8 : Int) (b2_0 : Int) (b2_1 : Int) (b2_2 : Int) (b2_3 : Int) (r3 : List ByteArray) (r4 : List Pr2) : Nat := (v53 - v54).toNat + 1
noncomputable def J6 {R : Type}  (NX : ((Int) × (List (List Chg)) × (Int) × (Int) × (Int) × (Int) × (Int) × (Int) × (Int) × (Int) × (Int) × (Int) × (Int) × (List Pr2) × (Int) × (Int) × (Int) × (Int) × (Int) × (Int) × (Int) × (Int) × (Int) × (Int) × (Int) × (Int) × (Int) × (List ByteArray) × (List Pr2) × Unit) → Option R) (X2 : ((Int) × (Int) × (Int) × (Int) × (Int) × (Int) × (Int) × (Int) × (Int) × (Int) × (List Pr2) × (Int) × (Int) × (Int) × (Int) × (Int) × (Int) × (Int) × (Int) × (Int) × (Int) × (Int) × (Int) × (Int) × (List ByteArray) × (List Pr2) × Unit) → Option R) (v1 : Int) (v52 : List (List Chg)) (v53 : Int) (v54 : Int) (b0_0 : Int) (b0_1 : Int) (b0_2 : Int) (b0_3 : Int) (b0_4 : Int) (b0_5 : Int) (b0_6 : Int) (b0_7 : Int) (b0_8 : Int) (b0_9 : List Pr2) (b1_0 : Int) (b1_1 : Int) (b1_2 : Int) (b1_3 : Int) (b1_4 : Int) (b1_5 : Int) (b1_6 : Int) (b1_7 : Int) (b1_8 : Int) (b2_0 : Int) (b2_1 : Int) (b2_2 : Int) (b2_3 : Int) (r3 : List ByteArray) (r4 : List Pr2) : Option R :=
 bif decide (v54 < v53) then bif decide (0 ≤ v54) then bif decide (v54 < nI v52.length) then ((Rs (E8 (v52.getD v54.toNat [])) v1 (IntKind.i64.wrap (b2_2 + nI r3.length)) b0_0).bind fun val => some ((val, ()), ())).bind fun val => bif decide ((r3.length + List.length val.1.1) * 16 ≤ 140737488355328) then NX (v1, v52, v53, IntKind.i64.wrap (v54 + 1), b0_0, b0_1, b0_2, b0_3, b0_4, b0_5, b0_6, b0_7, b0_8, b0_9, b1_0, b1_1, b1_2, b1_3, b1_4, b1_5, b1_6, b1_7, b1_8, b2_0, b2_1, b2_2, b2_3, r3 ++ val.1.1, r4, ()) else none else none else none else X2 (v1, b0_0, b0_1, b0_2, b0_3, b0_4, b0_5, b0_6, b0_7, b0_8, b0_9, b1_0, b1_1, b1_2, b1_3, b1_4, b1_5, b1_6, b1_7, b1_8, b2_0, b2_1, b2_2, b2_3, r3, r4, ())
noncomputable def Dt : Nat → (Int) → (List (List Chg)) → (Int) → (Int) → (Int) → (Int) → (Int) → (Int) → (Int) → (Int) → (Int) → (Int) → (Int) → (List Pr2) → (Int) → (Int) → (Int) → (Int) → (Int) → (Int) → (Int) → (Int) → (Int) → (Int) → (Int) → (Int) → (Int) → (List ByteArray) → (List Pr2) →  Option ((Int) × (Int) × (Int) × (Int) × (Int) × (Int) × (Int) × (Int) × (Int) × (Int) × (List Pr2) × (Int) × (Int) × (Int) × (Int) × (Int) × (Int) × (Int) × (Int) × (Int) × (Int) × (Int) × (Int) × (Int) × (List ByteArray) × (List Pr2) × Unit)
 | 0, _, _, _, _, _, _, _, _, _, _, _, _, _, _, _, _, _, _, _, _, _, _, _, _, _, _, _, _, _ => none
 | m + 1, v1, v52, v53, v54, b0_0, b0_1, b0_2, b0_3, b0_4, b0_5, b0_6, b0_7, b0_8, b0_9, b1_0, b1_1, b1_2, b1_3, b1_4, b1_5, b1_6, b1_7, b1_8, b2_0, b2_1, b2_2, b2_3, r3, r4 => J6  (fun d => Dt m d.1 d.2.1 d.2.2.1 d.2.2.2.1 d.2.2.2.2.1 d.2.2.2.2.2.1 d.2.2.2.2.2.2.1 d.2.2.2.2.2.2.2.1 d.2.2.2.2.2.2.2.2.1 d.2.2.2.2.2.2.2.2.2.1 d.2.2.2.2.2.2.2.2.2.2.1 d.2.2.2.2.2.2.2.2.2.2.2.1 d.2.2.2.2.2.2.2.2.2.2.2.2.1 d.2.2.2.2.2.2.2.2.2.2.2.2.2.1 d.2.2.2.2.2.2.2.2.2.2.2.2.2.2.1 d.2.2.2.2.2.2.2.2.2.2.2.2.2.2.2.1 d.2.2.2.2.2.2.2.2.2.2.2.2.2.2.2.2.1 d.2.2.2.2.2.2.2.2.2.2.2.2.2.2.2.2.2.1 d.2.2.2.2.2.2.2.2.2.2.2.2.2.2.2.2.2.2.1 d.2.2.2.2.2.2.2.2.2.2.2.2.2.2.2.2.2.2.2.1 d.2.2.2.2.2.2.2.2.2.2.2.2.2.2.2.2.2.2.2.2.1 d.2.2.2.2.2.2.2.2.2.2.2.2.2.2.2.2.2.2.2.2.2.1 d.2.2.2.2.2.2.2.2.2.2.2.2.2.2.2.2.2.2.2.2.2.2.1 d.2.2.2.2.2.2.2.2.2.2.2.2.2.2.2.2.2.2.2.2.2.2.2.1 d.2.2.2.2.2.2.2.2.2.2.2.2.2.2.2.2.2.2.2.2.2.2.2.2.1 d.2.2.2.2.2.2.2.2.2.2.2.2.2.2.2.2.2.2.2.2.2.2.2.2.2.1 d.2.2.2.2.2.2.2.2.2.2.2.2.2.2.2.2.2.2.2.2.2.2.2.2.2.2.1 d.2.2.2.2.2.2.2.2.2.2.2.2.2.2.2.2.2.2.2.2.2.2.2.2.2.2.2.1 d.2.2.2.2.2.2.2.2.2.2.2.2.2.2.2.2.2.2.2.2.2.2.2.2.2.2.2.2.1) (fun d => some (d)) v1 v52 v53 v54 b0_0 b0_1 b0_2 b0_3 b0_4 b0_5 b0_6 b0_7 b0_8 b0_9 b1_0 b1_1 b1_2 b1_3 b1_4 b1_5 b1_6 b1_7 b1_8 b2_0 b2_1 b2_2 b2_3 r3 r4
noncomputable def Wb (a0 : Sto) (a1 : Int) : Option ((((Int) × (Int) × (Int) × (Int) × (Int) × (Int) × (Int) × (Int) × (Int) × (List Pr2) × (List Opn) × (Bool) × Unit) × (Unit))) :=
 bif decide (IntKind.i64.wrap (a0.2.2.2.1.1 + 1) > 1000000000) then some ((0, 0, 0, 0, 0, 0, 0, 0, 0, [], [], false, ()), ()) else bif decide (IntKind.i64.wrap (a0.2.2.2.1.2.2.1 + B2 a0.2.1) > 999999000) then some ((0, 0, 0, 0, 0, 0, 0, 0, 0, [], [], false, ()), ()) else ((fun d => Dt (Ix d.1 d.2.1 d.2.2.1 d.2.2.2.1 d.2.2.2.2.1 d.2.2.2.2.2.1 d.2.2.2.2.2.2.1 d.2.2.2.2.2.2.2.1 d.2.2.2.2.2.2.2.2.1 d.2.2.2.2.2.2.2.2.2.1 d.2.2.2.2.2.2.2.2.2.2.1 d.2.2.2.2.2.2.2.2.2.2.2.1 d.2.2.2.2.2.2.2.2.2.2.2.2.1 d.2.2.2.2.2.2.2.2.2.2.2.2.2.1 d.2.2.2.2.2.2.2.2.2.2.2.2.2.2.1 d.2.2.2.2.2.2.2.2.2.2.2.2.2.2.2.1 d.2.2.2.2.2.2.2.2.2.2.2.2.2.2.2.2.1 d.2.2.2.2.2.2.2.2.2.2.2.2.2.2.2.2.2.1 d.2.2.2.2.2.2.2.2.2.2.2.2.2.2.2.2.2.2.1 d.2.2.2.2.2.2.2.2.2.2.2.2.2.2.2.2.2.2.2.1 d.2.2.2.2.2.2.2.2.2.2.2.2.2.2.2.2.2.2.2.2.1 d.2.2.2.2.2.2.2.2.2.2.2.2.2.2.2.2.2.2.2.2.2.1 d.2.2.2.2.2.2.2.2.2.2.2.2.2.2.2.2.2.2.2.2.2.2.1 d.2.2.2.2.2.2.2.2.2.2.2.2.2.2.2.2.2.2.2.2.2.2.2.1 d.2.2.2.2.2.2.2.2.2.2.2.2.2.2.2.2.2.2.2.2.2.2.2.2.1 d.2.2.2.2.2.2.2.2.2.2.2.2.2.2.2.2.2.2.2.2.2.2.2.2.2.1 d.2.2.2.2.2.2.2.2.2.2.2.2.2.2.2.2.2.2.2.2.2.2.2.2.2.2.1 d.2.2.2.2.2.2.2.2.2.2.2.2.2.2.2.2.2.2.2.2.2.2.2.2.2.2.2.1 d.2.2.2.2.2.2.2.2.2.2.2.2.2.2.2.2.2.2.2.2.2.2.2.2.2.2.2.2.1) d.1 d.2.1 d.2.2.1 d.2.2.2.1 d.2.2.2.2.1 d.2.2.2.2.2.1 d.2.2.2.2.2.2.1 d.2.2.2.2.2.2.2.1 d.2.2.2.2.2.2.2.2.1 d.2.2.2.2.2.2.2.2.2.1 d.2.2.2.2.2.2.2.2.2.2.1 d.2.2.2.2.2.2.2.2.2.2.2.1 d.2.2.2.2.2.2.2.2.2.2.2.2.1 d.2.2.2.2.2.2.2.2.2.2.2.2.2.1 d.2.2.2.2.2.2.2.2.2.2.2.2.2.2.1 d.2.2.2.2.2.2.2.2.2.2.2.2.2.2.2.1 d.2.2.2.2.2.2.2.2.2.2.2.2.2.2.2.2.1 d.2.2.2.2.2.2.2.2.2.2.2.2.2.2.2.2.2.1 d.2.2.2.2.2.2.2.2.2.2.2.2.2.2.2.2.2.2.1 d.2.2.2.2.2.2.2.2.2.2.2.2.2.2.2.2.2.2.2.1 d.2.2.2.2.2.2.2.2.2.2.2.2.2.2.2.2.2.2.2.2.1 d.2.2.2.2.2.2.2.2.2.2.2.2.2.2.2.2.2.2.2.2.2.1 d.2.2.2.2.2.2.2.2.2.2.2.2.2.2.2.2.2.2.2.2.2.2.1 d.2.2.2.2.2.2.2.2.2.2.2.2.2.2.2.2.2.2.2.2.2.2.2.1 d.2.2.2.2.2.2.2.2.2.2.2.2.2.2.2.2.2.2.2.2.2.2.2.2.1 d.2.2.2.2.2.2.2.2.2.2.2.2.2.2.2.2.2.2.2.2.2.2.2.2.2.1 d.2.2.2.2.2.2.2.2.2.2.2.2.2.2.2.2.2.2.2.2.2.2.2.2.2.2.1 d.2.2.2.2.2.2.2.2.2.2.2.2.2.2.2.2.2.2.2.2.2.2.2.2.2.2.2.1 d.2.2.2.2.2.2.2.2.2.2.2.2.2.2.2.2.2.2.2.2.2.2.2.2.2.2.2.2.1) (a1, Ew a0.2.2.2.2.2.2.1, nI (Ew a0.2.2.2.2.2.2.1).length, 0, a0.1, a0.2.1, a0.2.2.1, a0.2.2.2.1.1, a0.2.2.2.1.2.1, a0.2.2.2.1.2.2.1, a0.2.2.2.1.2.2.2.1, a0.2.2.2.2.1, a0.2.2.2.2.2.1, a0.2.2.2.2.2.2.1.1, 0, 0, 0, 0, 0, 0, 0, 0, 0, IntKind.i64.wrap (a0.2.2.2.1.1 + 1), IntKind.i64.wrap (1 - a0.2.2.2.1.2.1), IntKind.i64.wrap (a0.2.2.2.1.2.2.1 + B2 a0.2.1), a1, [Cc (3, a1, IntKind.i64.wrap (a0.2.2.2.1.2.2.1 + B2 a0.2.1), ByteArray.mk #[], ()) a0.1], [], ())).bind fun val => ((fun d => C9 (Hk d.1 d.2.1 d.2.2.1 d.2.2.2.1 d.2.2.2.2.1 d.2.2.2.2.2.1 d.2.2.2.2.2.2.1 d.2.2.2.2.2.2.2.1 d.2.2.2.2.2.2.2.2.1 d.2.2.2.2.2.2.2.2.2.1 d.2.2.2.2.2.2.2.2.2.2.1 d.2.2.2.2.2.2.2.2.2.2.2.1 d.2.2.2.2.2.2.2.2.2.2.2.2.1 d.2.2.2.2.2.2.2.2.2.2.2.2.2.1 d.2.2.2.2.2.2.2.2.2.2.2.2.2.2.1 d.2.2.2.2.2.2.2.2.2.2.2.2.2.2.2.1 d.2.2.2.2.2.2.2.2.2.2.2.2.2.2.2.2.1 d.2.2.2.2.2.2.2.2.2.2.2.2.2.2.2.2.2.1 d.2.2.2.2.2.2.2.2.2.2.2.2.2.2.2.2.2.2.1 d.2.2.2.2.2.2.2.2.2.2.2.2.2.2.2.2.2.2.2.1 d.2.2.2.2.2.2.2.2.2.2.2.2.2.2.2.2.2.2.2.2.1 d.2.2.2.2.2.2.2.2.2.2.2.2.2.2.2.2.2.2.2.2.2.1 d.2.2.2.2.2.2.2.2.2.2.2.2.2.2.2.2.2.2.2.2.2.2.1 d.2.2.2.2.2.2.2.2.2.2.2.2.2.2.2.2.2.2.2.2.2.2.2.1 d.2.2.2.2.2.2.2.2.2.2.2.2.2.2.2.2.2.2.2.2.2.2.2.2.1 d.2.2.2.2.2.2.2.2.2.2.2.2.2.2.2.2.2.2.2.2.2.2.2.2.2.1 d.2.2.2.2.2.2.2.2.2.2.2.2.2.2.2.2.2.2.2.2.2.2.2.2.2.2.1 d.2.2.2.2.2.2.2.2.2.2.2.2.2.2.2.2.2.2.2.2.2.2.2.2.2.2.2.1 d.2.2.2.2.2.2.2.2.2.2.2.2.2.2.2.2.2.2.2.2.2.2.2.2.2.2.2.2.1 d.2.2.2.2.2.2.2.2.2.2.2.2.2.2.2.2.2.2.2.2.2.2.2.2.2.2.2.2.2.1) d.1 d.2.1 d.2.2.1 d.2.2.2.1 d.2.2.2.2.1 d.2.2.2.2.2.1 d.2.2.2.2.2.2.1 d.2.2.2.2.2.2.2.1 d.2.2.2.2.2.2.2.2.1 d.2.2.2.2.2.2.2.2.2.1 d.2.2.2.2.2.2.2.2.2.2.1 d.2.2.2.2.2.2.2.2.2.2.2.1 d.2.2.2.2.2.2.2.2.2.2.2.2.1 d.2.2.2.2.2.2.2.2.2.2.2.2.2.1 d.2.2.2.2.2.2.2.2.2.2.2.2.2.2.1 d.2.2.2.2.2.2.2.2.2.2.2.2.2.2.2.1 d.2.2.2.2.2.2.2.2.2.2.2.2.2.2.2.2.1 d.2.2.2.2.2.2.2.2.2.2.2.2.2.2.2.2.2.1 d.2.2.2.2.2.2.2.2.2.2.2.2.2.2.2.2.2.2.1 d.2.2.2.2.2.2.2.2.2.2.2.2.2.2.2.2.2.2.2.1 d.2.2.2.2.2.2.2.2.2.2.2.2.2.2.2.2.2.2.2.2.1 d.2.2.2.2.2.2.2.2.2.2.2.2.2.2.2.2.2.2.2.2.2.1 d.2.2.2.2.2.2.2.2.2.2.2.2.2.2.2.2.2.2.2.2.2.2.1 d.2.2.2.2.2.2.2.2.2.2.2.2.2.2.2.2.2.2.2.2.2.2.2.1 d.2.2.2.2.2.2.2.2.2.2.2.2.2.2.2.2.2.2.2.2.2.2.2.2.1 d.2.2.2.2.2.2.2.2.2.2.2.2.2.2.2.2.2.2.2.2.2.2.2.2.2.1 d.2.2.2.2.2.2.2.2.2.2.2.2.2.2.2.2.2.2.2.2.2.2.2.2.2.2.1 d.2.2.2.2.2.2.2.2.2.2.2.2.2.2.2.2.2.2.2.2.2.2.2.2.2.2.2.1 d.2.2.2.2.2.2.2.2.2.2.2.2.2.2.2.2.2.2.2.2.2.2.2.2.2.2.2.2.1 d.2.2.2.2.2.2.2.2.2.2.2.2.2.2.2.2.2.2.2.2.2.2.2.2.2.2.2.2.2.1) (val.1, val.2.2.2.2.2.2.2.2.2.2.2.2.2.2.2.2.2.2.2.2.2.2.2.2.1, val.2.2.2.2.2.2.2.2.2.2.2.2.2.2.2.2.2.2.2.2.2.2.2.2.1, nI val.2.2.2.2.2.2.2.2.2.2.2.2.2.2.2.2.2.2.2.2.2.2.2.2.1.length, 0, val.2.1, val.2.2.1, val.2.2.2.1, val.2.2.2.2.1, val.2.2.2.2.2.1, val.2.2.2.2.2.2.1, val.2.2.2.2.2.2.2.1, val.2.2.2.2.2.2.2.2.1, val.2.2.2.2.2.2.2.2.2.1, val.2.2.2.2.2.2.2.2.2.2.1, val.2.2.2.2.2.2.2.2.2.2.2.1, val.2.2.2.2.2.2.2.2.2.2.2.2.1, val.2.2.2.2.2.2.2.2.2.2.2.2.2.1, val.2.2.2.2.2.2.2.2.2.2.2.2.2.2.1, val.2.2.2.2.2.2.2.2.2.2.2.2.2.2.2.1, val.2.2.2.2.2.2.2.2.2.2.2.2.2.2.2.2.1, val.2.2.2.2.2.2.2.2.2.2.2.2.2.2.2.2.2.1, val.2.2.2.2.2.2.2.2.2.2.2.2.2.2.2.2.2.2.1, val.2.2.2.2.2.2.2.2.2.2.2.2.2.2.2.2.2.2.2.1, val.2.2.2.2.2.2.2.2.2.2.2.2.2.2.2.2.2.2.2.2.1, val.2.2.2.2.2.2.2.2.2.2.2.2.2.2.2.2.2.2.2.2.2.1, val.2.2.2.2.2.2.2.2.2.2.2.2.2.2.2.2.2.2.2.2.2.2.1, val.2.2.2.2.2.2.2.2.2.2.2.2.2.2.2.2.2.2.2.2.2.2.2.1, [], val.2.2.2.2.2.2.2.2.2.2.2.2.2.2.2.2.2.2.2.2.2.2.2.2.2)).bind fun val => bif decide ((val.2.2.2.2.2.2.2.2.2.2.2.2.2.2.2.2.2.2.2.2.2.2.2.2.2.1.length + [(true, 0, ByteArray.mk #[], ()), (false, Int.tmod val.2.2.2.2.2.2.2.2.2.2.2.2.2.2.2.2.2.2.2.2.2.1 2, Hj (val.2.2.2.2.2.2.2.2.2.2.2.2.2.2.2.2.2.2.2.2.2.1, val.2.2.2.2.2.2.2.2.2.2.2.2.2.2.2.2.2.2.2.2.2.2.1, val.2.2.2.2.2.2.2.2.2.2.2.2.2.2.2.2.2.2.2.2.2.2.2.1, val.2.2.2.2.2.2.2.2.2.2.2.2.2.2.2.2.2.2.2.2.2.2.2.2.1, ()) val.2.2.1, ()), (true, 0, ByteArray.mk #[], ())].length) * 32 ≤ 140737488355328) then ((Iw (val.2.2.2.2.2.2.2.2.2.2.2.1, ())).bind fun val => some (val, ())).bind fun val_1 => some ((val.2.2.1, val.2.2.2.1, val.1, val.2.2.2.2.2.2.2.2.2.2.2.2.2.2.2.2.2.2.2.2.2.1, val.2.2.2.2.2.2.2.2.2.2.2.2.2.2.2.2.2.2.2.2.2.2.1, val.2.2.2.2.2.2.2.2.2.2.2.2.2.2.2.2.2.2.2.2.2.2.2.1, val.2.2.2.2.2.2.2.2.2.2.2.2.2.2.2.2.2.2.2.2.2.2.2.2.1, nI (List.length val.2.1), 0, val_1.1.1, val.2.2.2.2.2.2.2.2.2.2.2.2.2.2.2.2.2.2.2.2.2.2.2.2.2.1 ++ [(true, 0, ByteArray.mk #[], ()), (false, Int.tmod val.2.2.2.2.2.2.2.2.2.2.2.2.2.2.2.2.2.2.2.2.2.1 2, Hj (val.2.2.2.2.2.2.2.2.2.2.2.2.2.2.2.2.2.2.2.2.2.1, val.2.2.2.2.2.2.2.2.2.2.2.2.2.2.2.2.2.2.2.2.2.2.1, val.2.2.2.2.2.2.2.2.2.2.2.2.2.2.2.2.2.2.2.2.2.2.2.1, val.2.2.2.2.2.2.2.2.2.2.2.2.2.2.2.2.2.2.2.2.2.2.2.2.1, ()) val.2.2.1, ()), (true, 0, ByteArray.mk #[], ())], true, ()), ()) else none
theorem Avh (v1 b0 b1 b2 b3 b4 b5 b6 b7 b8 T H F l : Int) (b9 : List Pr2) (S : List (List Chg)) (L : List ByteArray) (hS : S.length ≤ 101) (hF : 0 ≤ F ∧ F ≤ 1000000099) (hL : L.length ≤ 1) :
  Dt (Ix v1 S (nI S.length) 0 b0 b1 b2 b3 b4 b5 b6 b7 b8 b9 0 0 0 0 0 0 0 0 0 T H F l L []) v1 S (nI S.length) 0 b0 b1 b2 b3 b4 b5 b6 b7 b8 b9 0 0 0 0 0 0 0 0 0 T H F l L [] =
  some (v1, b0, b1, b2, b3, b4, b5, b6, b7, b8, b9, 0, 0, 0, 0, 0, 0, 0, 0, 0, T, H, F, l, Eu (fun _ b L => Qp b0 v1 F b L) 0 S L, [], ()) := by
 have hL := E4 (xs := S) [] MvI (fun _ b L => Qp b0 v1 F b L) (g := fun m i L => Dt m v1 S (nI S.length) i b0 b1 b2 b3 b4 b5 b6 b7 b8 b9 0 0 0 0 0 0 0 0 0 T H F l L []) (ok := fun L => (v1, b0, b1, b2, b3, b4, b5, b6, b7, b8, b9, 0, 0, 0, 0, 0, 0, 0, 0, 0, T, H, F, l, L, [], ())) (fun m i L hi hI => by
   show Dt (m + 1) v1 S (nI S.length) i b0 b1 b2 b3 b4 b5 b6 b7 b8 b9 0 0 0 0 0 0 0 0 0 T H F l L [] = _
   simp only [Dt, J6]
   obtain ⟨h1, h2⟩ := hI
   rw [Ou hi, F2, wI (show i < 4611686018427387904 by omega), Int.toNat_natCast]
   have e0 : IntKind.i64.wrap (F + nI L.length) = F + (L.length : Int) := by simp only [nI]; exact Ad (by omega) (by omega)
   have e1 : Rs (E8 (List.getD S i [])) v1 (F + (L.length : Int)) b0 = some (Adn (Ff (List.getD S i [])) v1 (F + (L.length : Int)) b0) := if_pos (Nat.le_trans (Lg _) (by decide))
   rw [e0, e1]
   simp only [cond_true, Option.bind_some]
   have e2 := Ap3 (List.getD S i []) v1 (F + (L.length : Int)) b0
   rw [decide_eq_true (show (L.length + (Adn (Ff (List.getD S i [])) v1 (F + (L.length : Int)) b0).length) * 16 ≤ 140737488355328 by omega)]
   rfl) (fun i L hi hI => hI.step (by omega) _ _ _ _) (fun m L hI => by
   show Dt (m + 1) v1 S (nI S.length) (S.length : Int) b0 b1 b2 b3 b4 b5 b6 b7 b8 b9 0 0 0 0 0 0 0 0 0 T H F l L [] = _
   simp only [Dt, J6]
   rw [I0]
   rfl) (Ix v1 S (nI S.length) 0 b0 b1 b2 b3 b4 b5 b6 b7 b8 b9 0 0 0 0 0 0 0 0 0 T H F l L []) 0 L (by omega) (by simp [Ix, nI]) ⟨by omega, by omega⟩
 exact hL
theorem Atx (v1 b0 b1 b2 b3 b4 b5 b6 b7 b8 T H F l : Int) (b9 : List Pr2) (L : List ByteArray) (hL : L.length ≤ 500000) (hH : 0 ≤ H ∧ H ≤ 1) :
  C9 (Hk v1 L L (nI L.length) 0 b0 b1 b2 b3 b4 b5 b6 b7 b8 b9 0 0 0 0 0 0 0 0 0 T H F l [] []) v1 L L (nI L.length) 0 b0 b1 b2 b3 b4 b5 b6 b7 b8 b9 0 0 0 0 0 0 0 0 0 T H F l [] [] =
  some (v1, L, b0, b1, b2, b3, b4, b5, b6, b7, b8, b9, 0, 0, 0, 0, 0, 0, 0, 0, 0, T, H, F, l, Hn (Bv H b1) L, [], ()) := by
 have hh := Nr b1
 have hm : 0 ≤ H * An b1 ∧ H * An b1 ≤ 99 := by
  have : H = 0 ∨ H = 1 := by omega
  rcases this with rfl | rfl <;> omega
 have e0 : Cx H b1 = Bv H b1 := by
  show IntKind.i64.wrap (2 + IntKind.i64.wrap (H * An b1)) = 2 + H * An b1
  rw [Ad (n := H * An b1) (by omega) (by omega), Ad (by omega) (by omega)]
 have hB : 0 ≤ Bv H b1 ∧ Bv H b1 ≤ 101 := by unfold Bv; omega
 have hL := E4 (xs := L) z0 (fun i (r : List Opn) => i ≤ 500000 ∧ r.length = i) (fun (i : Nat) x r => r ++ [Adt (Bv H b1 + (i : Int)) x]) (g := fun m i r => C9 m v1 L L (nI L.length) i b0 b1 b2 b3 b4 b5 b6 b7 b8 b9 0 0 0 0 0 0 0 0 0 T H F l r []) (ok := fun r => (v1, L, b0, b1, b2, b3, b4, b5, b6, b7, b8, b9, 0, 0, 0, 0, 0, 0, 0, 0, 0, T, H, F, l, r, [], ())) (fun m i r hi hI => by
   show C9 (m + 1) v1 L L (nI L.length) i b0 b1 b2 b3 b4 b5 b6 b7 b8 b9 0 0 0 0 0 0 0 0 0 T H F l r [] = _
   simp only [C9, Ji]
   obtain ⟨h1, h2⟩ := hI
   rw [Ou hi, F2, wI (show i < 4611686018427387904 by omega), Int.toNat_natCast, e0, Ad (n := Bv H b1 + (i : Int)) (by omega) (by omega), List.length_singleton, decide_eq_true (show (r.length + 1) * 32 ≤ 140737488355328 by omega)]
   rfl) (fun i r hi hI => ⟨by omega, by rw [List.length_append, List.length_singleton, hI.2]⟩) (fun m r hI => by
   show C9 (m + 1) v1 L L (nI L.length) (L.length : Int) b0 b1 b2 b3 b4 b5 b6 b7 b8 b9 0 0 0 0 0 0 0 0 0 T H F l r [] = _
   simp only [C9, Ji]
   rw [I0]
   rfl) (Hk v1 L L (nI L.length) 0 b0 b1 b2 b3 b4 b5 b6 b7 b8 b9 0 0 0 0 0 0 0 0 0 T H F l [] []) 0 [] (by omega) (by simp [Hk, nI]) ⟨by omega, rfl⟩
 rw [Aom, List.drop_zero, List.nil_append, show Bv H b1 + ((0 : Nat) : Int) = Bv H b1 by omega] at hL
 exact hL
theorem Aqz (a0 : Sto) (a1 : Int) r (h : O1 a0 a1 = some r) : Wb a0 a1 = some ((r.1.1, r.1.2.1, r.1.2.2.1, r.1.2.2.2.1.1, r.1.2.2.2.1.2.1, r.1.2.2.2.1.2.2.1, r.1.2.2.2.1.2.2.2.1, r.1.2.2.2.2.1, r.1.2.2.2.2.2.1, r.1.2.2.2.2.2.2.1.1, r.2.1, r.2.2, ()), (())) := by
 unfold O1 at h
 split at h
 rotate_left
 ·cases h
 rename_i hk
 cases h
 obtain ⟨⟨t0, t1⟩, ⟨h0, h1⟩, ⟨f0, f1⟩, hp⟩ := hk
 have hh := Nr a0.2.1
 unfold Wb Aa0
 simp only [B2, Ew, Cc, Hj]
 show (bif decide (IntKind.i64.wrap (a0.2.2.2.1.1 + 1) > 1000000000) then _ else bif decide (IntKind.i64.wrap (a0.2.2.2.1.2.2.1 + An a0.2.1) > 999999000) then _ else _) = _
 rw [Ad (n := a0.2.2.2.1.1 + 1) (by omega) (by omega), Ad (n := a0.2.2.2.1.2.2.1 + An a0.2.1) (by omega) (by omega), Ad (n := 1 - a0.2.2.2.1.2.1) (by omega) (by omega)]
 cases hc1 : decide (a0.2.2.2.1.1 + 1 > 1000000000) with
 | true => rfl
 | false =>
  cases hc2 : decide (a0.2.2.2.1.2.2.1 + An a0.2.1 > 999999000) with
  | true => rfl
  | false =>
   simp only [cond_false]
   have hL1 := Avh a1 a0.1 a0.2.1 a0.2.2.1 a0.2.2.2.1.1 a0.2.2.2.1.2.1 a0.2.2.2.1.2.2.1 a0.2.2.2.1.2.2.2.1 a0.2.2.2.2.1 a0.2.2.2.2.2.1 (a0.2.2.2.1.1 + 1) (1 - a0.2.2.2.1.2.1) (a0.2.2.2.1.2.2.1 + An a0.2.1) a1 a0.2.2.2.2.2.2.1.1 (Cy a0.2.2.2.2.2.2.1) [Db (3, a1, a0.2.2.2.1.2.2.1 + An a0.2.1, z0, ()) a0.1] (P9 _) ⟨by omega, by omega⟩ (Nat.le_refl 1)
   have hL2 := Atx a1 a0.1 a0.2.1 a0.2.2.1 a0.2.2.2.1.1 a0.2.2.2.1.2.1 a0.2.2.2.1.2.2.1 a0.2.2.2.1.2.2.2.1 a0.2.2.2.2.1 a0.2.2.2.2.2.1 (a0.2.2.2.1.1 + 1) (1 - a0.2.2.2.1.2.1) (a0.2.2.2.1.2.2.1 + An a0.2.1) a1 a0.2.2.2.2.2.2.1.1 (mvL a0 a1) (Aij a0 a1) ⟨by omega, by omega⟩
   have hl := Aij a0 a1
   have e1 : Iw (a0.2.2.2.2.2.2.1.1, ()) = some (a0.2.2.2.2.2.2.1.1, ()) := if_pos hp
   have e2 : decide (((Hn (Bv (1 - a0.2.2.2.1.2.1) a0.2.1) (mvL a0 a1)).length + 3) * 32 ≤ 140737488355328) = true := decide_eq_true (by rw [T7]; omega)
   refine Td hL1 ?_
   dsimp only
   refine Td hL2 ?_
   dsimp only
   simp only [List.length_cons, List.length_nil, Nat.zero_add, Nat.reduceAdd]
   rw [e2, e1]
   rfl
noncomputable def Y6 {R : Type} (k : Kt R) := (Iz (pa_impl_move 8) (.exit 0) 2 k)
noncomputable def W6 {R : Type} (k : Kt R) := (Iz (pa_impl_move 14) (.exit 2) 4 k)
noncomputable def Y7 {R : Type} : Lt R pa_impl_move := (Ef (pat := pa_impl_move) 8 (fun d k => (Dt (Ix d.1 d.2.1 d.2.2.1 d.2.2.2.1 d.2.2.2.2.1 d.2.2.2.2.2.1 d.2.2.2.2.2.2.1 d.2.2.2.2.2.2.2.1 d.2.2.2.2.2.2.2.2.1 d.2.2.2.2.2.2.2.2.2.1 d.2.2.2.2.2.2.2.2.2.2.1 d.2.2.2.2.2.2.2.2.2.2.2.1 d.2.2.2.2.2.2.2.2.2.2.2.2.1 d.2.2.2.2.2.2.2.2.2.2.2.2.2.1 d.2.2.2.2.2.2.2.2.2.2.2.2.2.2.1 d.2.2.2.2.2.2.2.2.2.2.2.2.2.2.2.1 d.2.2.2.2.2.2.2.2.2.2.2.2.2.2.2.2.1 d.2.2.2.2.2.2.2.2.2.2.2.2.2.2.2.2.2.1 d.2.2.2.2.2.2.2.2.2.2.2.2.2.2.2.2.2.2.1 d.2.2.2.2.2.2.2.2.2.2.2.2.2.2.2.2.2.2.2.1 d.2.2.2.2.2.2.2.2.2.2.2.2.2.2.2.2.2.2.2.2.1 d.2.2.2.2.2.2.2.2.2.2.2.2.2.2.2.2.2.2.2.2.2.1 d.2.2.2.2.2.2.2.2.2.2.2.2.2.2.2.2.2.2.2.2.2.2.1 d.2.2.2.2.2.2.2.2.2.2.2.2.2.2.2.2.2.2.2.2.2.2.2.1 d.2.2.2.2.2.2.2.2.2.2.2.2.2.2.2.2.2.2.2.2.2.2.2.2.1 d.2.2.2.2.2.2.2.2.2.2.2.2.2.2.2.2.2.2.2.2.2.2.2.2.2.1 d.2.2.2.2.2.2.2.2.2.2.2.2.2.2.2.2.2.2.2.2.2.2.2.2.2.2.1 d.2.2.2.2.2.2.2.2.2.2.2.2.2.2.2.2.2.2.2.2.2.2.2.2.2.2.2.1 d.2.2.2.2.2.2.2.2.2.2.2.2.2.2.2.2.2.2.2.2.2.2.2.2.2.2.2.2.1) d.1 d.2.1 d.2.2.1 d.2.2.2.1 d.2.2.2.2.1 d.2.2.2.2.2.1 d.2.2.2.2.2.2.1 d.2.2.2.2.2.2.2.1 d.2.2.2.2.2.2.2.2.1 d.2.2.2.2.2.2.2.2.2.1 d.2.2.2.2.2.2.2.2.2.2.1 d.2.2.2.2.2.2.2.2.2.2.2.1 d.2.2.2.2.2.2.2.2.2.2.2.2.1 d.2.2.2.2.2.2.2.2.2.2.2.2.2.1 d.2.2.2.2.2.2.2.2.2.2.2.2.2.2.1 d.2.2.2.2.2.2.2.2.2.2.2.2.2.2.2.1 d.2.2.2.2.2.2.2.2.2.2.2.2.2.2.2.2.1 d.2.2.2.2.2.2.2.2.2.2.2.2.2.2.2.2.2.1 d.2.2.2.2.2.2.2.2.2.2.2.2.2.2.2.2.2.2.1 d.2.2.2.2.2.2.2.2.2.2.2.2.2.2.2.2.2.2.2.1 d.2.2.2.2.2.2.2.2.2.2.2.2.2.2.2.2.2.2.2.2.1 d.2.2.2.2.2.2.2.2.2.2.2.2.2.2.2.2.2.2.2.2.2.1 d.2.2.2.2.2.2.2.2.2.2.2.2.2.2.2.2.2.2.2.2.2.2.1 d.2.2.2.2.2.2.2.2.2.2.2.2.2.2.2.2.2.2.2.2.2.2.2.1 d.2.2.2.2.2.2.2.2.2.2.2.2.2.2.2.2.2.2.2.2.2.2.2.2.1 d.2.2.2.2.2.2.2.2.2.2.2.2.2.2.2.2.2.2.2.2.2.2.2.2.2.1 d.2.2.2.2.2.2.2.2.2.2.2.2.2.2.2.2.2.2.2.2.2.2.2.2.2.2.1 d.2.2.2.2.2.2.2.2.2.2.2.2.2.2.2.2.2.2.2.2.2.2.2.2.2.2.2.1 d.2.2.2.2.2.2.2.2.2.2.2.2.2.2.2.2.2.2.2.2.2.2.2.2.2.2.2.2.1).bind (Y6 k)) (Ef (pat := pa_impl_move) 14 (fun d k => (C9 (Hk d.1 d.2.1 d.2.2.1 d.2.2.2.1 d.2.2.2.2.1 d.2.2.2.2.2.1 d.2.2.2.2.2.2.1 d.2.2.2.2.2.2.2.1 d.2.2.2.2.2.2.2.2.1 d.2.2.2.2.2.2.2.2.2.1 d.2.2.2.2.2.2.2.2.2.2.1 d.2.2.2.2.2.2.2.2.2.2.2.1 d.2.2.2.2.2.2.2.2.2.2.2.2.1 d.2.2.2.2.2.2.2.2.2.2.2.2.2.1 d.2.2.2.2.2.2.2.2.2.2.2.2.2.2.1 d.2.2.2.2.2.2.2.2.2.2.2.2.2.2.2.1 d.2.2.2.2.2.2.2.2.2.2.2.2.2.2.2.2.1 d.2.2.2.2.2.2.2.2.2.2.2.2.2.2.2.2.2.1 d.2.2.2.2.2.2.2.2.2.2.2.2.2.2.2.2.2.2.1 d.2.2.2.2.2.2.2.2.2.2.2.2.2.2.2.2.2.2.2.1 d.2.2.2.2.2.2.2.2.2.2.2.2.2.2.2.2.2.2.2.2.1 d.2.2.2.2.2.2.2.2.2.2.2.2.2.2.2.2.2.2.2.2.2.1 d.2.2.2.2.2.2.2.2.2.2.2.2.2.2.2.2.2.2.2.2.2.2.1 d.2.2.2.2.2.2.2.2.2.2.2.2.2.2.2.2.2.2.2.2.2.2.2.1 d.2.2.2.2.2.2.2.2.2.2.2.2.2.2.2.2.2.2.2.2.2.2.2.2.1 d.2.2.2.2.2.2.2.2.2.2.2.2.2.2.2.2.2.2.2.2.2.2.2.2.2.1 d.2.2.2.2.2.2.2.2.2.2.2.2.2.2.2.2.2.2.2.2.2.2.2.2.2.2.1 d.2.2.2.2.2.2.2.2.2.2.2.2.2.2.2.2.2.2.2.2.2.2.2.2.2.2.2.1 d.2.2.2.2.2.2.2.2.2.2.2.2.2.2.2.2.2.2.2.2.2.2.2.2.2.2.2.2.1 d.2.2.2.2.2.2.2.2.2.2.2.2.2.2.2.2.2.2.2.2.2.2.2.2.2.2.2.2.2.1) d.1 d.2.1 d.2.2.1 d.2.2.2.1 d.2.2.2.2.1 d.2.2.2.2.2.1 d.2.2.2.2.2.2.1 d.2.2.2.2.2.2.2.1 d.2.2.2.2.2.2.2.2.1 d.2.2.2.2.2.2.2.2.2.1 d.2.2.2.2.2.2.2.2.2.2.1 d.2.2.2.2.2.2.2.2.2.2.2.1 d.2.2.2.2.2.2.2.2.2.2.2.2.1 d.2.2.2.2.2.2.2.2.2.2.2.2.2.1 d.2.2.2.2.2.2.2.2.2.2.2.2.2.2.1 d.2.2.2.2.2.2.2.2.2.2.2.2.2.2.2.1 d.2.2.2.2.2.2.2.2.2.2.2.2.2.2.2.2.1 d.2.2.2.2.2.2.2.2.2.2.2.2.2.2.2.2.2.1 d.2.2.2.2.2.2.2.2.2.2.2.2.2.2.2.2.2.2.1 d.2.2.2.2.2.2.2.2.2.2.2.2.2.2.2.2.2.2.2.1 d.2.2.2.2.2.2.2.2.2.2.2.2.2.2.2.2.2.2.2.2.1 d.2.2.2.2.2.2.2.2.2.2.2.2.2.2.2.2.2.2.2.2.2.1 d.2.2.2.2.2.2.2.2.2.2.2.2.2.2.2.2.2.2.2.2.2.2.1 d.2.2.2.2.2.2.2.2.2.2.2.2.2.2.2.2.2.2.2.2.2.2.2.1 d.2.2.2.2.2.2.2.2.2.2.2.2.2.2.2.2.2.2.2.2.2.2.2.2.1 d.2.2.2.2.2.2.2.2.2.2.2.2.2.2.2.2.2.2.2.2.2.2.2.2.2.1 d.2.2.2.2.2.2.2.2.2.2.2.2.2.2.2.2.2.2.2.2.2.2.2.2.2.2.1 d.2.2.2.2.2.2.2.2.2.2.2.2.2.2.2.2.2.2.2.2.2.2.2.2.2.2.2.1 d.2.2.2.2.2.2.2.2.2.2.2.2.2.2.2.2.2.2.2.2.2.2.2.2.2.2.2.2.1 d.2.2.2.2.2.2.2.2.2.2.2.2.2.2.2.2.2.2.2.2.2.2.2.2.2.2.2.2.2.1).bind (W6 k)) Fu))
theorem Wc : As Tryz.prog ta_impl_move := Au ⟨Rp, Atw, Sy, i6, Iu, Acv, U1, Ae9, trivial⟩
theorem Ahs {R : Type} : Ay Tryz.prog R 119 0 pa_impl_move Y7 co_impl_move_14 :=
 B6 (cfg := ⟨ta_impl_move, 0, 119, pa_impl_move⟩) 14 [] (fun NX X d => Ji  NX X d.1 d.2.1 d.2.2.1 d.2.2.2.1 d.2.2.2.2.1 d.2.2.2.2.2.1 d.2.2.2.2.2.2.1 d.2.2.2.2.2.2.2.1 d.2.2.2.2.2.2.2.2.1 d.2.2.2.2.2.2.2.2.2.1 d.2.2.2.2.2.2.2.2.2.2.1 d.2.2.2.2.2.2.2.2.2.2.2.1 d.2.2.2.2.2.2.2.2.2.2.2.2.1 d.2.2.2.2.2.2.2.2.2.2.2.2.2.1 d.2.2.2.2.2.2.2.2.2.2.2.2.2.2.1 d.2.2.2.2.2.2.2.2.2.2.2.2.2.2.2.1 d.2.2.2.2.2.2.2.2.2.2.2.2.2.2.2.2.1 d.2.2.2.2.2.2.2.2.2.2.2.2.2.2.2.2.2.1 d.2.2.2.2.2.2.2.2.2.2.2.2.2.2.2.2.2.2.1 d.2.2.2.2.2.2.2.2.2.2.2.2.2.2.2.2.2.2.2.1 d.2.2.2.2.2.2.2.2.2.2.2.2.2.2.2.2.2.2.2.2.1 d.2.2.2.2.2.2.2.2.2.2.2.2.2.2.2.2.2.2.2.2.2.1 d.2.2.2.2.2.2.2.2.2.2.2.2.2.2.2.2.2.2.2.2.2.2.1 d.2.2.2.2.2.2.2.2.2.2.2.2.2.2.2.2.2.2.2.2.2.2.2.1 d.2.2.2.2.2.2.2.2.2.2.2.2.2.2.2.2.2.2.2.2.2.2.2.2.1 d.2.2.2.2.2.2.2.2.2.2.2.2.2.2.2.2.2.2.2.2.2.2.2.2.2.1 d.2.2.2.2.2.2.2.2.2.2.2.2.2.2.2.2.2.2.2.2.2.2.2.2.2.2.1 d.2.2.2.2.2.2.2.2.2.2.2.2.2.2.2.2.2.2.2.2.2.2.2.2.2.2.2.1 d.2.2.2.2.2.2.2.2.2.2.2.2.2.2.2.2.2.2.2.2.2.2.2.2.2.2.2.2.1 d.2.2.2.2.2.2.2.2.2.2.2.2.2.2.2.2.2.2.2.2.2.2.2.2.2.2.2.2.2.1) (fun m d => C9 m d.1 d.2.1 d.2.2.1 d.2.2.2.1 d.2.2.2.2.1 d.2.2.2.2.2.1 d.2.2.2.2.2.2.1 d.2.2.2.2.2.2.2.1 d.2.2.2.2.2.2.2.2.1 d.2.2.2.2.2.2.2.2.2.1 d.2.2.2.2.2.2.2.2.2.2.1 d.2.2.2.2.2.2.2.2.2.2.2.1 d.2.2.2.2.2.2.2.2.2.2.2.2.1 d.2.2.2.2.2.2.2.2.2.2.2.2.2.1 d.2.2.2.2.2.2.2.2.2.2.2.2.2.2.1 d.2.2.2.2.2.2.2.2.2.2.2.2.2.2.2.1 d.2.2.2.2.2.2.2.2.2.2.2.2.2.2.2.2.1 d.2.2.2.2.2.2.2.2.2.2.2.2.2.2.2.2.2.1 d.2.2.2.2.2.2.2.2.2.2.2.2.2.2.2.2.2.2.1 d.2.2.2.2.2.2.2.2.2.2.2.2.2.2.2.2.2.2.2.1 d.2.2.2.2.2.2.2.2.2.2.2.2.2.2.2.2.2.2.2.2.1 d.2.2.2.2.2.2.2.2.2.2.2.2.2.2.2.2.2.2.2.2.2.1 d.2.2.2.2.2.2.2.2.2.2.2.2.2.2.2.2.2.2.2.2.2.2.1 d.2.2.2.2.2.2.2.2.2.2.2.2.2.2.2.2.2.2.2.2.2.2.2.1 d.2.2.2.2.2.2.2.2.2.2.2.2.2.2.2.2.2.2.2.2.2.2.2.2.1 d.2.2.2.2.2.2.2.2.2.2.2.2.2.2.2.2.2.2.2.2.2.2.2.2.2.1 d.2.2.2.2.2.2.2.2.2.2.2.2.2.2.2.2.2.2.2.2.2.2.2.2.2.2.1 d.2.2.2.2.2.2.2.2.2.2.2.2.2.2.2.2.2.2.2.2.2.2.2.2.2.2.2.1 d.2.2.2.2.2.2.2.2.2.2.2.2.2.2.2.2.2.2.2.2.2.2.2.2.2.2.2.2.1 d.2.2.2.2.2.2.2.2.2.2.2.2.2.2.2.2.2.2.2.2.2.2.2.2.2.2.2.2.2.1) (fun d => Hk d.1 d.2.1 d.2.2.1 d.2.2.2.1 d.2.2.2.2.1 d.2.2.2.2.2.1 d.2.2.2.2.2.2.1 d.2.2.2.2.2.2.2.1 d.2.2.2.2.2.2.2.2.1 d.2.2.2.2.2.2.2.2.2.1 d.2.2.2.2.2.2.2.2.2.2.1 d.2.2.2.2.2.2.2.2.2.2.2.1 d.2.2.2.2.2.2.2.2.2.2.2.2.1 d.2.2.2.2.2.2.2.2.2.2.2.2.2.1 d.2.2.2.2.2.2.2.2.2.2.2.2.2.2.1 d.2.2.2.2.2.2.2.2.2.2.2.2.2.2.2.1 d.2.2.2.2.2.2.2.2.2.2.2.2.2.2.2.2.1 d.2.2.2.2.2.2.2.2.2.2.2.2.2.2.2.2.2.1 d.2.2.2.2.2.2.2.2.2.2.2.2.2.2.2.2.2.2.1 d.2.2.2.2.2.2.2.2.2.2.2.2.2.2.2.2.2.2.2.1 d.2.2.2.2.2.2.2.2.2.2.2.2.2.2.2.2.2.2.2.2.1 d.2.2.2.2.2.2.2.2.2.2.2.2.2.2.2.2.2.2.2.2.2.1 d.2.2.2.2.2.2.2.2.2.2.2.2.2.2.2.2.2.2.2.2.2.2.1 d.2.2.2.2.2.2.2.2.2.2.2.2.2.2.2.2.2.2.2.2.2.2.2.1 d.2.2.2.2.2.2.2.2.2.2.2.2.2.2.2.2.2.2.2.2.2.2.2.2.1 d.2.2.2.2.2.2.2.2.2.2.2.2.2.2.2.2.2.2.2.2.2.2.2.2.2.1 d.2.2.2.2.2.2.2.2.2.2.2.2.2.2.2.2.2.2.2.2.2.2.2.2.2.2.1 d.2.2.2.2.2.2.2.2.2.2.2.2.2.2.2.2.2.2.2.2.2.2.2.2.2.2.2.1 d.2.2.2.2.2.2.2.2.2.2.2.2.2.2.2.2.2.2.2.2.2.2.2.2.2.2.2.2.1 d.2.2.2.2.2.2.2.2.2.2.2.2.2.2.2.2.2.2.2.2.2.2.2.2.2.2.2.2.2.1) W6 Wc trivial (fun f NX d => by unfold Ji; simp only [Am, Ap, Ah, Option.bind_assoc, Option.bind_none, Option.bind_some]) (fun _ _ _ => by kernel_rfl)
theorem Al4 {R : Type} : Ay Tryz.prog R 119 0 pa_impl_move Y7 co_impl_move_8 :=
 B6 (cfg := ⟨ta_impl_move, 0, 119, pa_impl_move⟩) 8 [] (fun NX X d => J6  NX X d.1 d.2.1 d.2.2.1 d.2.2.2.1 d.2.2.2.2.1 d.2.2.2.2.2.1 d.2.2.2.2.2.2.1 d.2.2.2.2.2.2.2.1 d.2.2.2.2.2.2.2.2.1 d.2.2.2.2.2.2.2.2.2.1 d.2.2.2.2.2.2.2.2.2.2.1 d.2.2.2.2.2.2.2.2.2.2.2.1 d.2.2.2.2.2.2.2.2.2.2.2.2.1 d.2.2.2.2.2.2.2.2.2.2.2.2.2.1 d.2.2.2.2.2.2.2.2.2.2.2.2.2.2.1 d.2.2.2.2.2.2.2.2.2.2.2.2.2.2.2.1 d.2.2.2.2.2.2.2.2.2.2.2.2.2.2.2.2.1 d.2.2.2.2.2.2.2.2.2.2.2.2.2.2.2.2.2.1 d.2.2.2.2.2.2.2.2.2.2.2.2.2.2.2.2.2.2.1 d.2.2.2.2.2.2.2.2.2.2.2.2.2.2.2.2.2.2.2.1 d.2.2.2.2.2.2.2.2.2.2.2.2.2.2.2.2.2.2.2.2.1 d.2.2.2.2.2.2.2.2.2.2.2.2.2.2.2.2.2.2.2.2.2.1 d.2.2.2.2.2.2.2.2.2.2.2.2.2.2.2.2.2.2.2.2.2.2.1 d.2.2.2.2.2.2.2.2.2.2.2.2.2.2.2.2.2.2.2.2.2.2.2.1 d.2.2.2.2.2.2.2.2.2.2.2.2.2.2.2.2.2.2.2.2.2.2.2.2.1 d.2.2.2.2.2.2.2.2.2.2.2.2.2.2.2.2.2.2.2.2.2.2.2.2.2.1 d.2.2.2.2.2.2.2.2.2.2.2.2.2.2.2.2.2.2.2.2.2.2.2.2.2.2.1 d.2.2.2.2.2.2.2.2.2.2.2.2.2.2.2.2.2.2.2.2.2.2.2.2.2.2.2.1 d.2.2.2.2.2.2.2.2.2.2.2.2.2.2.2.2.2.2.2.2.2.2.2.2.2.2.2.2.1) (fun m d => Dt m d.1 d.2.1 d.2.2.1 d.2.2.2.1 d.2.2.2.2.1 d.2.2.2.2.2.1 d.2.2.2.2.2.2.1 d.2.2.2.2.2.2.2.1 d.2.2.2.2.2.2.2.2.1 d.2.2.2.2.2.2.2.2.2.1 d.2.2.2.2.2.2.2.2.2.2.1 d.2.2.2.2.2.2.2.2.2.2.2.1 d.2.2.2.2.2.2.2.2.2.2.2.2.1 d.2.2.2.2.2.2.2.2.2.2.2.2.2.1 d.2.2.2.2.2.2.2.2.2.2.2.2.2.2.1 d.2.2.2.2.2.2.2.2.2.2.2.2.2.2.2.1 d.2.2.2.2.2.2.2.2.2.2.2.2.2.2.2.2.1 d.2.2.2.2.2.2.2.2.2.2.2.2.2.2.2.2.2.1 d.2.2.2.2.2.2.2.2.2.2.2.2.2.2.2.2.2.2.1 d.2.2.2.2.2.2.2.2.2.2.2.2.2.2.2.2.2.2.2.1 d.2.2.2.2.2.2.2.2.2.2.2.2.2.2.2.2.2.2.2.2.1 d.2.2.2.2.2.2.2.2.2.2.2.2.2.2.2.2.2.2.2.2.2.1 d.2.2.2.2.2.2.2.2.2.2.2.2.2.2.2.2.2.2.2.2.2.2.1 d.2.2.2.2.2.2.2.2.2.2.2.2.2.2.2.2.2.2.2.2.2.2.2.1 d.2.2.2.2.2.2.2.2.2.2.2.2.2.2.2.2.2.2.2.2.2.2.2.2.1 d.2.2.2.2.2.2.2.2.2.2.2.2.2.2.2.2.2.2.2.2.2.2.2.2.2.1 d.2.2.2.2.2.2.2.2.2.2.2.2.2.2.2.2.2.2.2.2.2.2.2.2.2.2.1 d.2.2.2.2.2.2.2.2.2.2.2.2.2.2.2.2.2.2.2.2.2.2.2.2.2.2.2.1 d.2.2.2.2.2.2.2.2.2.2.2.2.2.2.2.2.2.2.2.2.2.2.2.2.2.2.2.2.1) (fun d => Ix d.1 d.2.1 d.2.2.1 d.2.2.2.1 d.2.2.2.2.1 d.2.2.2.2.2.1 d.2.2.2.2.2.2.1 d.2.2.2.2.2.2.2.1 d.2.2.2.2.2.2.2.2.1 d.2.2.2.2.2.2.2.2.2.1 d.2.2.2.2.2.2.2.2.2.2.1 d.2.2.2.2.2.2.2.2.2.2.2.1 d.2.2.2.2.2.2.2.2.2.2.2.2.1 d.2.2.2.2.2.2.2.2.2.2.2.2.2.1 d.2.2.2.2.2.2.2.2.2.2.2.2.2.2.1 d.2.2.2.2.2.2.2.2.2.2.2.2.2.2.2.1 d.2.2.2.2.2.2.2.2.2.2.2.2.2.2.2.2.1 d.2.2.2.2.2.2.2.2.2.2.2.2.2.2.2.2.2.1 d.2.2.2.2.2.2.2.2.2.2.2.2.2.2.2.2.2.2.1 d.2.2.2.2.2.2.2.2.2.2.2.2.2.2.2.2.2.2.2.1 d.2.2.2.2.2.2.2.2.2.2.2.2.2.2.2.2.2.2.2.2.1 d.2.2.2.2.2.2.2.2.2.2.2.2.2.2.2.2.2.2.2.2.2.1 d.2.2.2.2.2.2.2.2.2.2.2.2.2.2.2.2.2.2.2.2.2.2.1 d.2.2.2.2.2.2.2.2.2.2.2.2.2.2.2.2.2.2.2.2.2.2.2.1 d.2.2.2.2.2.2.2.2.2.2.2.2.2.2.2.2.2.2.2.2.2.2.2.2.1 d.2.2.2.2.2.2.2.2.2.2.2.2.2.2.2.2.2.2.2.2.2.2.2.2.2.1 d.2.2.2.2.2.2.2.2.2.2.2.2.2.2.2.2.2.2.2.2.2.2.2.2.2.2.1 d.2.2.2.2.2.2.2.2.2.2.2.2.2.2.2.2.2.2.2.2.2.2.2.2.2.2.2.1 d.2.2.2.2.2.2.2.2.2.2.2.2.2.2.2.2.2.2.2.2.2.2.2.2.2.2.2.2.1) Y6 Wc trivial (fun f NX d => by unfold J6; simp only [Am, Ap, Ah, Option.bind_assoc, Option.bind_none, Option.bind_some]) (fun _ _ _ => by kernel_rfl)
theorem Aq0 : Bo Tryz.prog 117 sd_impl_move :=
 At (pat := pa_impl_move) [co_impl_move_8, co_impl_move_14] Y7 Wc ⟨Al4, Ahs, trivial⟩ Tryz.func117 (de := fun x => Wb x.1 x.2.1) (fun x r h => Az (Aqz x.1 x.2.1) h) fun _ => by kernel_rfl
def Al (d : Dk) (w : Int) : Don := Aos d w
def Aq1 : Sig := ⟨[.rd yDk, .rd tI], [some 2, none], [.rd tI, .rd tI, .rd tI, .rd tI, .rd tI, .rd tI, .rd tI, .rd tI, .rd tI, .rd tI, .own 167 Aq, .own 126 B7], [some 12]⟩
noncomputable def sd_impl_Open : SD := ⟨Aq1, fun x => some (((Al x.1 x.2.1).1, (Al x.1 x.2.1).2.1.1, (Al x.1 x.2.1).2.1.2.1, (Al x.1 x.2.1).2.1.2.2.1, (Al x.1 x.2.1).2.1.2.2.2.1.1, (Al x.1 x.2.1).2.1.2.2.2.1.2.1, (Al x.1 x.2.1).2.1.2.2.2.1.2.2.1, (Al x.1 x.2.1).2.1.2.2.2.1.2.2.2.1, (Al x.1 x.2.1).2.1.2.2.2.2.1, (Al x.1 x.2.1).2.1.2.2.2.2.2.1, (Al x.1 x.2.1).2.1.2.2.2.2.2.2.1.1, (Al x.1 x.2.1).2.2.1, ()), (()))⟩
noncomputable def ta_impl_Open : Tb := tb [(90, sd_impl_Apply), (91, sd_impl_Halves), (92, sd_impl_Room), (95, sd_impl_begin), (111, sd_impl_ValidDisk), (112, sd_impl_in), (113, sd_impl_FindRoot), (114, sd_impl_Scan), (115, sd_impl_ReadBatch), (116, sd_impl_FormPage), (117, sd_impl_move)]
def pa_impl_Open : Nat → Pat × (Nat → Pat) := Fe [(10, ⟨[.sl 50 0 .str, .boxRow 4 10 167 Aq, .boxRow 4 11 126 B7, .boxSl 8 0 .str, .boxRow 9 0 167 Aq], [(1, .lf (.d tI)), (4, .lf (.ptr 0 0)), (5, .lf (.d tI)), (6, .lf (.d tI)), (7, .lf (.ptr 1 0)), (8, .lf (.ptr 2 0)), (9, .lf (.ptr 3 0)), (50, .lf (.d (.sl .str))), (51, .lf (.d tI)), (52, .lf (.d tI))], [.box 56 [.d tI, .d tI, .d tI, .d tI, .d tI, .d tI, .d tI, .d tI, .d tI, .d tI, .row 4, .row 5], .box 28 [.d tI, .d tI, .d tI, .d tI], .box 142 [.d (.sl .str), .d tI, .d tI], .box 31 [.row 6], .row 167 Aq, .row 126 B7, .row 167 Aq]⟩, [(2, ⟨[.boxRow 4 10 167 Aq, .boxRow 4 11 126 B7, .boxSl 8 0 .str, .boxRow 9 0 167 Aq], [(1, .lf (.d tI)), (4, .lf (.ptr 0 0)), (5, .lf (.d tI)), (6, .lf (.d tI)), (7, .lf (.ptr 1 0)), (8, .lf (.ptr 2 0)), (9, .lf (.ptr 3 0))], [.box 56 [.d tI, .d tI, .d tI, .d tI, .d tI, .d tI, .d tI, .d tI, .d tI, .d tI, .row 4, .row 5], .box 28 [.d tI, .d tI, .d tI, .d tI], .box 142 [.d (.sl .str), .d tI, .d tI], .box 31 [.row 6], .row 167 Aq, .row 126 B7, .row 167 Aq]⟩), (1, ⟨[.boxRow 4 10 167 Aq, .boxRow 4 11 126 B7], [(4, .lf (.ptr 0 0))], [.box 56 [.d tI, .d tI, .d tI, .d tI, .d tI, .d tI, .d tI, .d tI, .d tI, .d tI, .row 1, .row 2], .row 167 Aq, .row 126 B7]⟩)])]
noncomputable def co_impl_Open_10 : Code := (Ao (A8 Tryz.f31)).getD 0 .skip
def Hl (v1 : Int) (v5 : Int) (v6 : Int) (v50 : List ByteArray) (v51 : Int) (v52 : Int) (b0_0 : Int) (b0_1 : Int) (b0_2 : Int) (b0_3 : Int) (b0_4 : Int) (b0_5 : Int) (b0_6 : Int) (b0_7 : Int) (b0_8 : Int) (b0_9 : Int) (b1_0 : Int) (b1_1 : Int) (b1_2 : Int) (b1_3 : Int) (b2_0 : List ByteArray) (b2_1 : Int) (b2_2 : Int) (r4 : List Pr2) (r5 : List Opn) (r6 : List Pr2) : Nat := (v51 - v52).toNat + 1
noncomputable def Jj {R : Type}  (NX : ((Int) × (Int) × (Int) × (List ByteArray) × (Int) × (Int) × (Int) × (Int) × (Int) × (Int) × (Int) × (Int) × (Int) × (Int) × (Int) × (Int) × (Int) × (Int) × (Int) × (Int) × (List ByteArray) × (Int) × (Int) × (List Pr2) × (List Opn) × (List Pr2) × Unit) → Option R) (X2 : ((Int) × (Int) × (Int) × (Int) × (Int) × (Int) × (Int) × (Int) × (Int) × (Int) × (Int) × (Int) × (Int) × (Int) × (Int) × (Int) × (Int) × (List ByteArray) × (Int) × (Int) × (List Pr2) × (List Opn) × (List Pr2) × Unit) → Option R) (X1 : ((Int) × (Int) × (Int) × (Int) × (Int) × (Int) × (Int) × (Int) × (Int) × (Int) × (List Pr2) × (List Opn) × Unit) → Option R) (v1 : Int) (v5 : Int) (v6 : Int) (v50 : List ByteArray) (v51 : Int) (v52 : Int) (b0_0 : Int) (b0_1 : Int) (b0_2 : Int) (b0_3 : Int) (b0_4 : Int) (b0_5 : Int) (b0_6 : Int) (b0_7 : Int) (b0_8 : Int) (b0_9 : Int) (b1_0 : Int) (b1_1 : Int) (b1_2 : Int) (b1_3 : Int) (b2_0 : List ByteArray) (b2_1 : Int) (b2_2 : Int) (r4 : List Pr2) (r5 : List Opn) (r6 : List Pr2) : Option R :=
 bif decide (v52 < v51) then bif decide (0 ≤ v52) then bif decide (v52 < nI v50.length) then bif !(D9 (v50.getD v52.toNat (ByteArray.mk #[]))).2 then X1 (2, 0, 0, 0, 0, 0, 0, 0, 0, 0, [], [], ()) else bif (I3 (r6, ()) (D9 (v50.getD v52.toNat (ByteArray.mk #[]))).1).2 != 0 then X1 (2, 0, 0, 0, 0, 0, 0, 0, 0, 0, [], [], ()) else NX (v1, v5, v6, v50, v51, IntKind.i64.wrap (v52 + 1), b0_0, b0_1, b0_2, b0_3, b0_4, b0_5, b0_6, b0_7, b0_8, b0_9, b1_0, b1_1, b1_2, b1_3, b2_0, b2_1, b2_2, r4, r5, (I3 (r6, ()) (D9 (v50.getD v52.toNat (ByteArray.mk #[]))).1).1) else none else none else X2 (v1, v5, v6, b0_0, b0_1, b0_2, b0_3, b0_4, b0_5, b0_6, b0_7, b0_8, b0_9, b1_0, b1_1, b1_2, b1_3, b2_0, b2_1, b2_2, r4, r5, r6, ())
noncomputable def Da : Nat → (Int) → (Int) → (Int) → (List ByteArray) → (Int) → (Int) → (Int) → (Int) → (Int) → (Int) → (Int) → (Int) → (Int) → (Int) → (Int) → (Int) → (Int) → (Int) → (Int) → (Int) → (List ByteArray) → (Int) → (Int) → (List Pr2) → (List Opn) → (List Pr2) →  Option (((Int) × (Int) × (Int) × (Int) × (Int) × (Int) × (Int) × (Int) × (Int) × (Int) × (Int) × (Int) × (Int) × (Int) × (Int) × (Int) × (Int) × (List ByteArray) × (Int) × (Int) × (List Pr2) × (List Opn) × (List Pr2) × Unit) ⊕ ((Int) × (Int) × (Int) × (Int) × (Int) × (Int) × (Int) × (Int) × (Int) × (Int) × (List Pr2) × (List Opn) × Unit))
 | 0, _, _, _, _, _, _, _, _, _, _, _, _, _, _, _, _, _, _, _, _, _, _, _, _, _, _ => none
 | m + 1, v1, v5, v6, v50, v51, v52, b0_0, b0_1, b0_2, b0_3, b0_4, b0_5, b0_6, b0_7, b0_8, b0_9, b1_0, b1_1, b1_2, b1_3, b2_0, b2_1, b2_2, r4, r5, r6 => Jj  (fun d => Da m d.1 d.2.1 d.2.2.1 d.2.2.2.1 d.2.2.2.2.1 d.2.2.2.2.2.1 d.2.2.2.2.2.2.1 d.2.2.2.2.2.2.2.1 d.2.2.2.2.2.2.2.2.1 d.2.2.2.2.2.2.2.2.2.1 d.2.2.2.2.2.2.2.2.2.2.1 d.2.2.2.2.2.2.2.2.2.2.2.1 d.2.2.2.2.2.2.2.2.2.2.2.2.1 d.2.2.2.2.2.2.2.2.2.2.2.2.2.1 d.2.2.2.2.2.2.2.2.2.2.2.2.2.2.1 d.2.2.2.2.2.2.2.2.2.2.2.2.2.2.2.1 d.2.2.2.2.2.2.2.2.2.2.2.2.2.2.2.2.1 d.2.2.2.2.2.2.2.2.2.2.2.2.2.2.2.2.2.1 d.2.2.2.2.2.2.2.2.2.2.2.2.2.2.2.2.2.2.1 d.2.2.2.2.2.2.2.2.2.2.2.2.2.2.2.2.2.2.2.1 d.2.2.2.2.2.2.2.2.2.2.2.2.2.2.2.2.2.2.2.2.1 d.2.2.2.2.2.2.2.2.2.2.2.2.2.2.2.2.2.2.2.2.2.1 d.2.2.2.2.2.2.2.2.2.2.2.2.2.2.2.2.2.2.2.2.2.2.1 d.2.2.2.2.2.2.2.2.2.2.2.2.2.2.2.2.2.2.2.2.2.2.2.1 d.2.2.2.2.2.2.2.2.2.2.2.2.2.2.2.2.2.2.2.2.2.2.2.2.1 d.2.2.2.2.2.2.2.2.2.2.2.2.2.2.2.2.2.2.2.2.2.2.2.2.2.1) (fun d => some (.inl (d))) (fun d => some (.inr (d))) v1 v5 v6 v50 v51 v52 b0_0 b0_1 b0_2 b0_3 b0_4 b0_5 b0_6 b0_7 b0_8 b0_9 b1_0 b1_1 b1_2 b1_3 b2_0 b2_1 b2_2 r4 r5 r6
noncomputable def Wd (a0 : Dk) (a1 : Int) : Option ((((Int) × (Int) × (Int) × (Int) × (Int) × (Int) × (Int) × (Int) × (Int) × (Int) × (List Pr2) × (List Opn) × Unit) × (Unit))) :=
 bif !Gn a0 then some ((1, 0, 0, 0, 0, 0, 0, 0, 0, 0, [], [], ()), ()) else bif !Cg a1 1 8 then some ((1, 0, 0, 0, 0, 0, 0, 0, 0, 0, [], [], ()), ()) else ((fun d => Da (Hl d.1 d.2.1 d.2.2.1 d.2.2.2.1 d.2.2.2.2.1 d.2.2.2.2.2.1 d.2.2.2.2.2.2.1 d.2.2.2.2.2.2.2.1 d.2.2.2.2.2.2.2.2.1 d.2.2.2.2.2.2.2.2.2.1 d.2.2.2.2.2.2.2.2.2.2.1 d.2.2.2.2.2.2.2.2.2.2.2.1 d.2.2.2.2.2.2.2.2.2.2.2.2.1 d.2.2.2.2.2.2.2.2.2.2.2.2.2.1 d.2.2.2.2.2.2.2.2.2.2.2.2.2.2.1 d.2.2.2.2.2.2.2.2.2.2.2.2.2.2.2.1 d.2.2.2.2.2.2.2.2.2.2.2.2.2.2.2.2.1 d.2.2.2.2.2.2.2.2.2.2.2.2.2.2.2.2.2.1 d.2.2.2.2.2.2.2.2.2.2.2.2.2.2.2.2.2.2.1 d.2.2.2.2.2.2.2.2.2.2.2.2.2.2.2.2.2.2.2.1 d.2.2.2.2.2.2.2.2.2.2.2.2.2.2.2.2.2.2.2.2.1 d.2.2.2.2.2.2.2.2.2.2.2.2.2.2.2.2.2.2.2.2.2.1 d.2.2.2.2.2.2.2.2.2.2.2.2.2.2.2.2.2.2.2.2.2.2.1 d.2.2.2.2.2.2.2.2.2.2.2.2.2.2.2.2.2.2.2.2.2.2.2.1 d.2.2.2.2.2.2.2.2.2.2.2.2.2.2.2.2.2.2.2.2.2.2.2.2.1 d.2.2.2.2.2.2.2.2.2.2.2.2.2.2.2.2.2.2.2.2.2.2.2.2.2.1) d.1 d.2.1 d.2.2.1 d.2.2.2.1 d.2.2.2.2.1 d.2.2.2.2.2.1 d.2.2.2.2.2.2.1 d.2.2.2.2.2.2.2.1 d.2.2.2.2.2.2.2.2.1 d.2.2.2.2.2.2.2.2.2.1 d.2.2.2.2.2.2.2.2.2.2.1 d.2.2.2.2.2.2.2.2.2.2.2.1 d.2.2.2.2.2.2.2.2.2.2.2.2.1 d.2.2.2.2.2.2.2.2.2.2.2.2.2.1 d.2.2.2.2.2.2.2.2.2.2.2.2.2.2.1 d.2.2.2.2.2.2.2.2.2.2.2.2.2.2.2.1 d.2.2.2.2.2.2.2.2.2.2.2.2.2.2.2.2.1 d.2.2.2.2.2.2.2.2.2.2.2.2.2.2.2.2.2.1 d.2.2.2.2.2.2.2.2.2.2.2.2.2.2.2.2.2.2.1 d.2.2.2.2.2.2.2.2.2.2.2.2.2.2.2.2.2.2.2.1 d.2.2.2.2.2.2.2.2.2.2.2.2.2.2.2.2.2.2.2.2.1 d.2.2.2.2.2.2.2.2.2.2.2.2.2.2.2.2.2.2.2.2.2.1 d.2.2.2.2.2.2.2.2.2.2.2.2.2.2.2.2.2.2.2.2.2.2.1 d.2.2.2.2.2.2.2.2.2.2.2.2.2.2.2.2.2.2.2.2.2.2.2.1 d.2.2.2.2.2.2.2.2.2.2.2.2.2.2.2.2.2.2.2.2.2.2.2.2.1 d.2.2.2.2.2.2.2.2.2.2.2.2.2.2.2.2.2.2.2.2.2.2.2.2.2.1) (a1, nI (List.length a0.1), B2 (nI (List.length a0.1)), (D8 a0 (Cx (Ar a0 a1).2.1 (nI (List.length a0.1))) (B2 (nI (List.length a0.1))) (Ar a0 a1).2.2.1 (Ar a0 a1).2.2.2.1 a1).1, nI (D8 a0 (Cx (Ar a0 a1).2.1 (nI (List.length a0.1))) (B2 (nI (List.length a0.1))) (Ar a0 a1).2.2.1 (Ar a0 a1).2.2.2.1 a1).1.length, 0, 0, 0, 0, 0, 0, 0, 0, 0, 0, 0, (Ar a0 a1).1, (Ar a0 a1).2.1, (Ar a0 a1).2.2.1, (Ar a0 a1).2.2.2.1, (D8 a0 (Cx (Ar a0 a1).2.1 (nI (List.length a0.1))) (B2 (nI (List.length a0.1))) (Ar a0 a1).2.2.1 (Ar a0 a1).2.2.2.1 a1).1, (D8 a0 (Cx (Ar a0 a1).2.1 (nI (List.length a0.1))) (B2 (nI (List.length a0.1))) (Ar a0 a1).2.2.1 (Ar a0 a1).2.2.2.1 a1).2.1, (D8 a0 (Cx (Ar a0 a1).2.1 (nI (List.length a0.1))) (B2 (nI (List.length a0.1))) (Ar a0 a1).2.2.1 (Ar a0 a1).2.2.2.1 a1).2.2.1, [], [], [], ())).bind fun val => Cs (fun val => bif decide (IntKind.i64.wrap (val.2.2.2.2.2.2.2.2.2.2.2.2.2.2.2.2.2.2.2.1 + 1) > 60000) then some ((3, 0, 0, 0, 0, 0, 0, 0, 0, 0, [], [], ()), ()) else bif decide (Sz val.2.2.2.2.2.2.2.2.2.2.2.2.2.2.2.2.2.2.2.2.2.2 val.1 > IntKind.i64.wrap (val.2.2.1 - 1)) then some ((4, 0, 0, 0, 0, 0, 0, 0, 0, 0, [], [], ()), ()) else bif decide (val.2.2.2.2.2.2.2.2.2.2.2.2.2.2.2.2.2.2.1 < val.2.2.1) then some ((0, val.1, val.2.1, IntKind.i64.wrap (val.2.2.2.2.2.2.2.2.2.2.2.2.2.2.2.2.2.2.2.1 + 1), val.2.2.2.2.2.2.2.2.2.2.2.2.2.1, val.2.2.2.2.2.2.2.2.2.2.2.2.2.2.1, val.2.2.2.2.2.2.2.2.2.2.2.2.2.2.2.1, val.2.2.2.2.2.2.2.2.2.2.2.2.2.2.2.2.1, IntKind.i64.wrap (val.2.2.2.2.2.2.2.2.2.2.2.2.2.2.2.2.2.2.1 + 1), 0, val.2.2.2.2.2.2.2.2.2.2.2.2.2.2.2.2.2.2.2.2.2.2.1, [(false, IntKind.i64.wrap (Cx val.2.2.2.2.2.2.2.2.2.2.2.2.2.2.1 val.2.1 + val.2.2.2.2.2.2.2.2.2.2.2.2.2.2.2.2.2.2.1), Cc (3, IntKind.i64.wrap (val.2.2.2.2.2.2.2.2.2.2.2.2.2.2.2.2.2.2.2.1 + 1), IntKind.i64.wrap (val.2.2.2.2.2.2.2.2.2.2.2.2.2.2.2.1 + val.2.2.2.2.2.2.2.2.2.2.2.2.2.2.2.2.2.2.1), ByteArray.mk #[], ()) val.1, ()), (true, 0, ByteArray.mk #[], ())], ()), ()) else ((O1 (val.1, val.2.1, IntKind.i64.wrap (val.2.2.2.2.2.2.2.2.2.2.2.2.2.2.2.2.2.2.2.1 + 1), (val.2.2.2.2.2.2.2.2.2.2.2.2.2.1, val.2.2.2.2.2.2.2.2.2.2.2.2.2.2.1, val.2.2.2.2.2.2.2.2.2.2.2.2.2.2.2.1, val.2.2.2.2.2.2.2.2.2.2.2.2.2.2.2.2.1, ()), val.2.2.2.2.2.2.2.2.2.2.2.2.2.2.2.2.2.2.1, 0, val.2.2.2.2.2.2.2.2.2.2.2.2.2.2.2.2.2.2.2.2.2.2, ()) (IntKind.i64.wrap (val.2.2.2.2.2.2.2.2.2.2.2.2.2.2.2.2.2.2.2.1 + 1))).bind fun val => some ((val.1.1, val.1.2.1, val.1.2.2.1, val.1.2.2.2.1.1, val.1.2.2.2.1.2.1, val.1.2.2.2.1.2.2.1, val.1.2.2.2.1.2.2.2.1, val.1.2.2.2.2.1, val.1.2.2.2.2.2.1, val.1.2.2.2.2.2.2.1.1, val.2.1, val.2.2, ()), ())).bind fun val => bif !val.1.2.2.2.2.2.2.2.2.2.2.2.1 then some ((4, 0, 0, 0, 0, 0, 0, 0, 0, 0, [], [], ()), ()) else some ((0, val.1.1, val.1.2.1, val.1.2.2.1, val.1.2.2.2.1, val.1.2.2.2.2.1, val.1.2.2.2.2.2.1, val.1.2.2.2.2.2.2.1, val.1.2.2.2.2.2.2.2.1, val.1.2.2.2.2.2.2.2.2.1, val.1.2.2.2.2.2.2.2.2.2.1, val.1.2.2.2.2.2.2.2.2.2.2.1, ()), ())) (fun val => some (val, ())) val
theorem Aty (w n h : Int) (r : Rt) (x : Scd) (hx : x.1.length ≤ 1073741824) :
  Da (Hl w n h x.1 (nI x.1.length) 0 0 0 0 0 0 0 0 0 0 0 r.1 r.2.1 r.2.2.1 r.2.2.2.1 x.1 x.2.1 x.2.2.1 [] [] []) w n h x.1 (nI x.1.length) 0 0 0 0 0 0 0 0 0 0 0 r.1 r.2.1 r.2.2.1 r.2.2.2.1 x.1 x.2.1 x.2.2.1 [] [] [] = some (match Ns x.1 zSs with
   | some st => .inl (w, n, h, 0, 0, 0, 0, 0, 0, 0, 0, 0, 0, r.1, r.2.1, r.2.2.1, r.2.2.2.1, x.1, x.2.1, x.2.2.1, [], [], st.1, ())
   | none => .inr (2, 0, 0, 0, 0, 0, 0, 0, 0, 0, [], [], ())) := by
 have hL := Adw (xs := x.1) (g := fun m i q => Da m w n h x.1 (nI x.1.length) i 0 0 0 0 0 0 0 0 0 0 r.1 r.2.1 r.2.2.1 r.2.2.2.1 x.1 x.2.1 x.2.2.1 [] [] q) (ok := fun q => .inl (w, n, h, 0, 0, 0, 0, 0, 0, 0, 0, 0, 0, r.1, r.2.1, r.2.2.1, r.2.2.2.1, x.1, x.2.1, x.2.2.1, [], [], q, ())) (bad := .inr (2, 0, 0, 0, 0, 0, 0, 0, 0, 0, [], [], ())) (fun m i q hi => by
   show Da (m + 1) w n h x.1 (nI x.1.length) i 0 0 0 0 0 0 0 0 0 0 r.1 r.2.1 r.2.2.1 r.2.2.2.1 x.1 x.2.1 x.2.2.1 [] [] q = _
   simp only [Da, Jj]
   rw [Ou hi, F2, wI (show i < 4611686018427387904 by omega), Int.toNat_natCast]
   rfl) (fun m q => by
   show Da (m + 1) w n h x.1 (nI x.1.length) (x.1.length : Int) 0 0 0 0 0 0 0 0 0 0 r.1 r.2.1 r.2.2.1 r.2.2.2.1 x.1 x.2.1 x.2.2.1 [] [] q = _
   simp only [Da, Jj]
   rw [I0]
   rfl) (Hl w n h x.1 (nI x.1.length) 0 0 0 0 0 0 0 0 0 0 0 r.1 r.2.1 r.2.2.1 r.2.2.2.1 x.1 x.2.1 x.2.2.1 [] [] []) 0 [] (by omega) (by simp [Hl, nI])
 rw [List.drop_zero] at hL
 exact hL
theorem Aq2 (a0 : Dk) (a1 : Int) : Wd a0 a1 = some (((Al a0 a1).1, (Al a0 a1).2.1.1, (Al a0 a1).2.1.2.1, (Al a0 a1).2.1.2.2.1, (Al a0 a1).2.1.2.2.2.1.1, (Al a0 a1).2.1.2.2.2.1.2.1, (Al a0 a1).2.1.2.2.2.1.2.2.1, (Al a0 a1).2.1.2.2.2.1.2.2.2.1, (Al a0 a1).2.1.2.2.2.2.1, (Al a0 a1).2.1.2.2.2.2.2.1, (Al a0 a1).2.1.2.2.2.2.2.2.1.1, (Al a0 a1).2.2.1, ()), (())) := by
 unfold Wd Al Aos
 show (bif !B8 a0 then _ else bif !E9 a1 1 8 then _ else _) = _
 cases hv : B8 a0 with
 | false => rfl
 | true =>
  cases hw : E9 a1 1 8 with
  | false => rfl
  | true =>
   simp only [Bool.not_true, cond_false]
   have hr := Af6 hv hw
   have hm := Aik (n := nI a0.1.length) hr.2.1
   have hh := Nr (nI a0.1.length)
   have eb : Cx (A6 a0 a1).2.1 (nI a0.1.length) = Bv (A6 a0 a1).2.1 (nI a0.1.length) := by
    show IntKind.i64.wrap (2 + IntKind.i64.wrap ((A6 a0 a1).2.1 * An (nI a0.1.length))) = 2 + (A6 a0 a1).2.1 * An (nI a0.1.length)
    rw [Ad (n := (A6 a0 a1).2.1 * An (nI a0.1.length)) (by omega) (by omega), Ad (by omega) (by omega)]
   have ex : D8 a0 (Cx (Ar a0 a1).2.1 (nI a0.1.length)) (B2 (nI a0.1.length)) (Ar a0 a1).2.2.1 (Ar a0 a1).2.2.2.1 a1 = Hd a0 a1 := by
    show Sa a0 (Cx (A6 a0 a1).2.1 (nI a0.1.length)) (An (nI a0.1.length)) (A6 a0 a1).2.2.1 (A6 a0 a1).2.2.2.1 a1 = _
    rw [eb]
    rfl
   simp only [ex]
   have hx : (Hd a0 a1).1.length ≤ 1073741824 := of_decide_eq_true (Cj (Cj (Aka a0 (Bv (A6 a0 a1).2.1 (nI a0.1.length)) (An (nI a0.1.length)) (A6 a0 a1).2.2.1 (A6 a0 a1).2.2.2.1 a1)).1).1
   have hs := As8 a0 (Bv (A6 a0 a1).2.1 (nI a0.1.length)) (An (nI a0.1.length)) (A6 a0 a1).2.2.1 (A6 a0 a1).2.2.2.1 a1 hh.1 hr.2.2.2
   refine Td (Aty a1 (nI a0.1.length) (An (nI a0.1.length)) (A6 a0 a1) (Hd a0 a1) hx) ?_
   cases ho : Ns (Hd a0 a1).1 zSs with
   | none => rfl
   | some st =>
    have hst := P2 rfl ho
    replace hs : (0 ≤ (Hd a0 a1).2.1 ∧ (Hd a0 a1).2.1 ≤ An (nI a0.1.length)) ∧ (0 ≤ (Hd a0 a1).2.2.1 ∧ (Hd a0 a1).2.2.1 ≤ 60000) := hs
    clear ho hx ex
    generalize Hd a0 a1 = x at *
    generalize A6 a0 a1 = r at *
    show (bif decide (IntKind.i64.wrap (x.2.2.1 + 1) > 60000) then _ else bif decide (R9 st a1 > IntKind.i64.wrap (An (nI a0.1.length) - 1)) then _ else bif decide (x.2.1 < An (nI a0.1.length)) then _ else _) = _
    dsimp only
    rw [Ad (n := x.2.2.1 + 1) (by omega) (by omega), Af0]
    by_cases h1 : x.2.2.1 + 1 > 60000
    ·rw [decide_eq_true h1, Awt h1]; rfl
    by_cases h2 : R9 st a1 > An (nI a0.1.length) - 1
    ·rw [decide_eq_false h1, decide_eq_true h2, Awu h1 h2]; rfl
    by_cases h3 : x.2.1 < An (nI a0.1.length)
    ·rw [decide_eq_false h1, decide_eq_false h2, decide_eq_true h3, Awv h1 h2 h3]
     simp only [cond_true, cond_false]
     obtain ⟨_, hr1, hr2, hr3⟩ := hr
     have hB : 0 ≤ Bv r.2.1 (nI a0.1.length) ∧ Bv r.2.1 (nI a0.1.length) ≤ 101 := by unfold Bv; omega
     rw [eb, Ad (n := x.2.1 + 1) (by omega) (by omega), Ad (n := Bv r.2.1 (nI a0.1.length) + x.2.1) (by omega) (by omega), Ad (n := r.2.2.1 + x.2.1) (by omega) (by omega)]
     rfl
    ·rw [decide_eq_false h1, decide_eq_false h2, decide_eq_false h3, Aww h1 h2 h3]
     simp only [cond_true, cond_false]
     have e1 : O1 (a1, nI a0.1.length, x.2.2.1 + 1, r, x.2.1, 0, st, ()) (x.2.2.1 + 1) = some (Aa0 (a1, nI a0.1.length, x.2.2.1 + 1, r, x.2.1, 0, st, ()) (x.2.2.1 + 1)) := if_pos ⟨hr.1, hr.2.1, ⟨Int.le_trans (by decide) hr.2.2.1.1, Int.le_trans hr.2.2.1.2 (by decide)⟩, Nat.le_trans (Fh hst) (by decide)⟩
     refine (congrArg (fun q => Option.bind (Option.bind q _) _) e1).trans ?_
     unfold Af2
     generalize Aa0 (a1, nI a0.1.length, x.2.2.1 + 1, r, x.2.1, 0, st, ()) (x.2.2.1 + 1) = q
     obtain ⟨s, ops, b⟩ := q
     cases b <;> rfl
noncomputable def W7 {R : Type} (k : Kt R) := (Cs (Iz (pa_impl_Open 10) (.exit 0) 2 k) (Iz (pa_impl_Open 10) .ret 1 k))
noncomputable def Agk {R : Type} : Lt R pa_impl_Open := (Ef (pat := pa_impl_Open) 10 (fun d k => (Da (Hl d.1 d.2.1 d.2.2.1 d.2.2.2.1 d.2.2.2.2.1 d.2.2.2.2.2.1 d.2.2.2.2.2.2.1 d.2.2.2.2.2.2.2.1 d.2.2.2.2.2.2.2.2.1 d.2.2.2.2.2.2.2.2.2.1 d.2.2.2.2.2.2.2.2.2.2.1 d.2.2.2.2.2.2.2.2.2.2.2.1 d.2.2.2.2.2.2.2.2.2.2.2.2.1 d.2.2.2.2.2.2.2.2.2.2.2.2.2.1 d.2.2.2.2.2.2.2.2.2.2.2.2.2.2.1 d.2.2.2.2.2.2.2.2.2.2.2.2.2.2.2.1 d.2.2.2.2.2.2.2.2.2.2.2.2.2.2.2.2.1 d.2.2.2.2.2.2.2.2.2.2.2.2.2.2.2.2.2.1 d.2.2.2.2.2.2.2.2.2.2.2.2.2.2.2.2.2.2.1 d.2.2.2.2.2.2.2.2.2.2.2.2.2.2.2.2.2.2.2.1 d.2.2.2.2.2.2.2.2.2.2.2.2.2.2.2.2.2.2.2.2.1 d.2.2.2.2.2.2.2.2.2.2.2.2.2.2.2.2.2.2.2.2.2.1 d.2.2.2.2.2.2.2.2.2.2.2.2.2.2.2.2.2.2.2.2.2.2.1 d.2.2.2.2.2.2.2.2.2.2.2.2.2.2.2.2.2.2.2.2.2.2.2.1 d.2.2.2.2.2.2.2.2.2.2.2.2.2.2.2.2.2.2.2.2.2.2.2.2.1 d.2.2.2.2.2.2.2.2.2.2.2.2.2.2.2.2.2.2.2.2.2.2.2.2.2.1) d.1 d.2.1 d.2.2.1 d.2.2.2.1 d.2.2.2.2.1 d.2.2.2.2.2.1 d.2.2.2.2.2.2.1 d.2.2.2.2.2.2.2.1 d.2.2.2.2.2.2.2.2.1 d.2.2.2.2.2.2.2.2.2.1 d.2.2.2.2.2.2.2.2.2.2.1 d.2.2.2.2.2.2.2.2.2.2.2.1 d.2.2.2.2.2.2.2.2.2.2.2.2.1 d.2.2.2.2.2.2.2.2.2.2.2.2.2.1 d.2.2.2.2.2.2.2.2.2.2.2.2.2.2.1 d.2.2.2.2.2.2.2.2.2.2.2.2.2.2.2.1 d.2.2.2.2.2.2.2.2.2.2.2.2.2.2.2.2.1 d.2.2.2.2.2.2.2.2.2.2.2.2.2.2.2.2.2.1 d.2.2.2.2.2.2.2.2.2.2.2.2.2.2.2.2.2.2.1 d.2.2.2.2.2.2.2.2.2.2.2.2.2.2.2.2.2.2.2.1 d.2.2.2.2.2.2.2.2.2.2.2.2.2.2.2.2.2.2.2.2.1 d.2.2.2.2.2.2.2.2.2.2.2.2.2.2.2.2.2.2.2.2.2.1 d.2.2.2.2.2.2.2.2.2.2.2.2.2.2.2.2.2.2.2.2.2.2.1 d.2.2.2.2.2.2.2.2.2.2.2.2.2.2.2.2.2.2.2.2.2.2.2.1 d.2.2.2.2.2.2.2.2.2.2.2.2.2.2.2.2.2.2.2.2.2.2.2.2.1 d.2.2.2.2.2.2.2.2.2.2.2.2.2.2.2.2.2.2.2.2.2.2.2.2.2.1).bind (W7 k)) Fu)
theorem Acw : As Tryz.prog ta_impl_Open := Au ⟨Am1, Rp, Aqu, i6, M6, En, Ae6, Aqx, Acr, Iu, Aq0, trivial⟩
theorem Aht {R : Type} : Ay Tryz.prog R 137 0 pa_impl_Open Agk co_impl_Open_10 :=
 B6 (cfg := ⟨ta_impl_Open, 0, 137, pa_impl_Open⟩) 10 [] (fun NX X d => Jj  NX (fun e => X (.inl (e))) (fun e => X (.inr (e))) d.1 d.2.1 d.2.2.1 d.2.2.2.1 d.2.2.2.2.1 d.2.2.2.2.2.1 d.2.2.2.2.2.2.1 d.2.2.2.2.2.2.2.1 d.2.2.2.2.2.2.2.2.1 d.2.2.2.2.2.2.2.2.2.1 d.2.2.2.2.2.2.2.2.2.2.1 d.2.2.2.2.2.2.2.2.2.2.2.1 d.2.2.2.2.2.2.2.2.2.2.2.2.1 d.2.2.2.2.2.2.2.2.2.2.2.2.2.1 d.2.2.2.2.2.2.2.2.2.2.2.2.2.2.1 d.2.2.2.2.2.2.2.2.2.2.2.2.2.2.2.1 d.2.2.2.2.2.2.2.2.2.2.2.2.2.2.2.2.1 d.2.2.2.2.2.2.2.2.2.2.2.2.2.2.2.2.2.1 d.2.2.2.2.2.2.2.2.2.2.2.2.2.2.2.2.2.2.1 d.2.2.2.2.2.2.2.2.2.2.2.2.2.2.2.2.2.2.2.1 d.2.2.2.2.2.2.2.2.2.2.2.2.2.2.2.2.2.2.2.2.1 d.2.2.2.2.2.2.2.2.2.2.2.2.2.2.2.2.2.2.2.2.2.1 d.2.2.2.2.2.2.2.2.2.2.2.2.2.2.2.2.2.2.2.2.2.2.1 d.2.2.2.2.2.2.2.2.2.2.2.2.2.2.2.2.2.2.2.2.2.2.2.1 d.2.2.2.2.2.2.2.2.2.2.2.2.2.2.2.2.2.2.2.2.2.2.2.2.1 d.2.2.2.2.2.2.2.2.2.2.2.2.2.2.2.2.2.2.2.2.2.2.2.2.2.1) (fun m d => Da m d.1 d.2.1 d.2.2.1 d.2.2.2.1 d.2.2.2.2.1 d.2.2.2.2.2.1 d.2.2.2.2.2.2.1 d.2.2.2.2.2.2.2.1 d.2.2.2.2.2.2.2.2.1 d.2.2.2.2.2.2.2.2.2.1 d.2.2.2.2.2.2.2.2.2.2.1 d.2.2.2.2.2.2.2.2.2.2.2.1 d.2.2.2.2.2.2.2.2.2.2.2.2.1 d.2.2.2.2.2.2.2.2.2.2.2.2.2.1 d.2.2.2.2.2.2.2.2.2.2.2.2.2.2.1 d.2.2.2.2.2.2.2.2.2.2.2.2.2.2.2.1 d.2.2.2.2.2.2.2.2.2.2.2.2.2.2.2.2.1 d.2.2.2.2.2.2.2.2.2.2.2.2.2.2.2.2.2.1 d.2.2.2.2.2.2.2.2.2.2.2.2.2.2.2.2.2.2.1 d.2.2.2.2.2.2.2.2.2.2.2.2.2.2.2.2.2.2.2.1 d.2.2.2.2.2.2.2.2.2.2.2.2.2.2.2.2.2.2.2.2.1 d.2.2.2.2.2.2.2.2.2.2.2.2.2.2.2.2.2.2.2.2.2.1 d.2.2.2.2.2.2.2.2.2.2.2.2.2.2.2.2.2.2.2.2.2.2.1 d.2.2.2.2.2.2.2.2.2.2.2.2.2.2.2.2.2.2.2.2.2.2.2.1 d.2.2.2.2.2.2.2.2.2.2.2.2.2.2.2.2.2.2.2.2.2.2.2.2.1 d.2.2.2.2.2.2.2.2.2.2.2.2.2.2.2.2.2.2.2.2.2.2.2.2.2.1) (fun d => Hl d.1 d.2.1 d.2.2.1 d.2.2.2.1 d.2.2.2.2.1 d.2.2.2.2.2.1 d.2.2.2.2.2.2.1 d.2.2.2.2.2.2.2.1 d.2.2.2.2.2.2.2.2.1 d.2.2.2.2.2.2.2.2.2.1 d.2.2.2.2.2.2.2.2.2.2.1 d.2.2.2.2.2.2.2.2.2.2.2.1 d.2.2.2.2.2.2.2.2.2.2.2.2.1 d.2.2.2.2.2.2.2.2.2.2.2.2.2.1 d.2.2.2.2.2.2.2.2.2.2.2.2.2.2.1 d.2.2.2.2.2.2.2.2.2.2.2.2.2.2.2.1 d.2.2.2.2.2.2.2.2.2.2.2.2.2.2.2.2.1 d.2.2.2.2.2.2.2.2.2.2.2.2.2.2.2.2.2.1 d.2.2.2.2.2.2.2.2.2.2.2.2.2.2.2.2.2.2.1 d.2.2.2.2.2.2.2.2.2.2.2.2.2.2.2.2.2.2.2.1 d.2.2.2.2.2.2.2.2.2.2.2.2.2.2.2.2.2.2.2.2.1 d.2.2.2.2.2.2.2.2.2.2.2.2.2.2.2.2.2.2.2.2.2.1 d.2.2.2.2.2.2.2.2.2.2.2.2.2.2.2.2.2.2.2.2.2.2.1 d.2.2.2.2.2.2.2.2.2.2.2.2.2.2.2.2.2.2.2.2.2.2.2.1 d.2.2.2.2.2.2.2.2.2.2.2.2.2.2.2.2.2.2.2.2.2.2.2.2.1 d.2.2.2.2.2.2.2.2.2.2.2.2.2.2.2.2.2.2.2.2.2.2.2.2.2.1) W7 Acw trivial (fun f NX d => by unfold Jj; simp only [Am, Ap, Ah, Option.bind_assoc, Option.bind_none, Option.bind_some]) (fun _ _ _ => by kernel_rfl)
theorem Aq3 : Bo Tryz.prog 31 sd_impl_Open :=
 At (pat := pa_impl_Open) [co_impl_Open_10] Agk Acw ⟨Aht, trivial⟩ Tryz.func31 (de := fun x => Wd x.1 x.2.1) (fun x r h => (Aq2 x.1 x.2.1).trans h) fun _ => by kernel_rfl
def Kj (a b : List ByteArray) : Option Bool := eqM (.sl .str) a b
def Acx : Sig := ⟨[.rd (.sl .str), .rd (.sl .str)], [none, none], [.rd .bool], [none]⟩
noncomputable def sd_laws_eqStringS : SD := ⟨Acx, fun x => (Kj x.1 x.2.1).bind fun r => some ((r, ()), (()))⟩
noncomputable def ta_laws_eqStringS : Tb := tb []
def pa_laws_eqStringS : Nat → Pat × (Nat → Pat) := Fe [(5, ⟨[.sl 0 0 .str, .sl 1 0 .str], [(0, .lf (.d (.sl .str))), (1, .lf (.d (.sl .str))), (5, .lf (.d tI))], []⟩, [(2, p0), (1, ⟨[], [(4, .lf (.d .bool))], []⟩)])]
noncomputable def co_laws_eqStringS_5 : Code := (Ao (A8 Tryz.f118)).getD 0 .skip
def Dn (v0 : List ByteArray) (v1 : List ByteArray) (v5 : Int) : Nat := ((v0.length : Int) - v5).toNat + 1
noncomputable def Gf {R : Type}  (NX : ((List ByteArray) × (List ByteArray) × (Int) × Unit) → Option R) (X2 : (Unit) → Option R) (X1 : ((Bool) × Unit) → Option R) (v0 : List ByteArray) (v1 : List ByteArray) (v5 : Int) : Option R :=
 bif decide (v5 < nI v0.length) then bif decide (0 ≤ v5) then bif decide (v5 < nI v0.length) then bif decide (0 ≤ v5) then bif decide (v5 < nI v1.length) then bif !ByteArray.toList (v0.getD v5.toNat (ByteArray.mk #[])) == ByteArray.toList (v1.getD v5.toNat (ByteArray.mk #[])) then X1 (false, ()) else NX (v0, v1, IntKind.i64.wrap (v5 + 1), ()) else none else none else none else none else X2 PUnit.unit
noncomputable def Bu : Nat → (List ByteArray) → (List ByteArray) → (Int) →  Option ((Unit) ⊕ ((Bool) × Unit))
 | 0, _, _, _ => none
 | m + 1, v0, v1, v5 => Gf  (fun d => Bu m d.1 d.2.1 d.2.2.1) (fun d => some (.inl (d))) (fun d => some (.inr (d))) v0 v1 v5
noncomputable def Nc (a0 : List ByteArray) (a1 : List ByteArray) : Option ((((Bool) × Unit) × (Unit))) :=
 bif nI a0.length != nI a1.length then some ((false, ()), ()) else ((fun d => Bu (Dn d.1 d.2.1 d.2.2.1) d.1 d.2.1 d.2.2.1) (a0, a1, 0, ())).bind fun val => Cs (fun val => some ((true, ()), ())) (fun val => some (val, ())) val
theorem Acy (a0 : List ByteArray) (a1 : List ByteArray) r (h : Kj a0 a1 = some r) : Nc a0 a1 = some ((r, ()), (())) := by
 obtain ⟨hc, hd, rfl⟩ := Jb (t := .sl .str) h
 obtain ⟨hlx0, hx⟩ := Ks hc
 obtain ⟨hly0, hy⟩ := Ks hd
 have hlx : a0.length < 1152921504606846976 := hlx0
 have hly : a1.length < 1152921504606846976 := hly0
 clear hlx0 hly0 hc hd h
 ·unfold Nc
  by_cases hl : a1.length = a0.length
  ·have c1 : (nI a0.length != nI a1.length) = false := by simp [nI, hl]
   have hL := Aar (xs := a0) (ys := a1) (ByteArray.mk #[]) eqS (g := fun m i => Bu m a0 a1 i) (ok := .inl ()) (bad := .inr (false, ())) hl (fun m i hi => by
    show Bu (m + 1) a0 a1 i = _
    simp only [Bu, Gf]
    rw [Ou hi, F2, Ou (show i < a1.length by omega), wI (by omega)]
    simp only [cond_true, Int.toNat_natCast]
    show (bif !(ByteArray.toList (List.getD (α := ByteArray) a0 i (ByteArray.mk #[])) == ByteArray.toList (List.getD (α := ByteArray) a1 i (ByteArray.mk #[]))) then _ else _) = bif (ByteArray.toList (List.getD (α := ByteArray) a0 i (ByteArray.mk #[])) == ByteArray.toList (List.getD (α := ByteArray) a1 i (ByteArray.mk #[]))) then _ else _
    cases (ByteArray.toList (List.getD (α := ByteArray) a0 i (ByteArray.mk #[])) == ByteArray.toList (List.getD (α := ByteArray) a1 i (ByteArray.mk #[]))) <;> rfl) (fun m => by
    show Bu (m + 1) a0 a1 a0.length = _
    simp only [Bu, Gf]
    rw [I0]
    rfl) (Dn a0 a1 0) 0 (by omega) (by simp [Dn])
   rw [c1]
   have hL' : Bu (Dn a0 a1 0) a0 a1 0 = _ := hL
   show (Bu (Dn a0 a1 0) a0 a1 0).bind _ = some ((eqL (α := ByteArray) eqS a0 a1, ()), ())
   rw [hL', List.drop_zero, List.drop_zero]
   cases eqL (α := ByteArray) eqS a0 a1 <;> rfl
  ·have c1 : (nI a0.length != nI a1.length) = true := by simp [nI]; omega
   rw [c1]
   show _ = some ((eqL (α := ByteArray) eqS a0 a1, ()), ())
   rw [Aaq (fun q => hl q.symm)]
   rfl
noncomputable def Pt {R : Type} (k : Kt R) := (Cs (Iz (pa_laws_eqStringS 5) (.exit 0) 2 k) (Iz (pa_laws_eqStringS 5) .ret 1 k))
noncomputable def U5 {R : Type} : Lt R pa_laws_eqStringS := (Ef (pat := pa_laws_eqStringS) 5 (fun d k => (Bu (Dn d.1 d.2.1 d.2.2.1) d.1 d.2.1 d.2.2.1).bind (Pt k)) Fu)
theorem S2 : As Tryz.prog ta_laws_eqStringS := Au trivial
theorem Z3 {R : Type} : Ay Tryz.prog R 26 0 pa_laws_eqStringS U5 co_laws_eqStringS_5 :=
 B6 (cfg := ⟨ta_laws_eqStringS, 0, 26, pa_laws_eqStringS⟩) 5 [] (fun NX X d => Gf  NX (fun e => X (.inl (e))) (fun e => X (.inr (e))) d.1 d.2.1 d.2.2.1) (fun m d => Bu m d.1 d.2.1 d.2.2.1) (fun d => Dn d.1 d.2.1 d.2.2.1) Pt S2 trivial (fun f NX d => by unfold Gf; simp only [Am, Ap, Ah, Option.bind_assoc, Option.bind_none, Option.bind_some]) (fun _ _ _ => by kernel_rfl)
theorem Acz : Bo Tryz.prog 118 sd_laws_eqStringS :=
 At (pat := pa_laws_eqStringS) [co_laws_eqStringS_5] U5 S2 ⟨Z3, trivial⟩ Tryz.func118 (de := fun x => Nc x.1 x.2.1) (fun x r h => Az (Acy x.1 x.2.1) h) fun _ => by kernel_rfl
def Nd (a b : Wr) : Option Bool := eqM Eb a b
def Ahu : Sig := ⟨[.rd Eb, .rd Eb], [some 2, some 2], [.rd .bool], [none]⟩
noncomputable def sd_laws_eqWrite : SD := ⟨Ahu, fun x => (Nd x.1 x.2.1).bind fun r => some ((r, ()), (()))⟩
noncomputable def Ph (a0 : Wr) (a1 : Wr) : Option ((((Bool) × Unit) × (Unit))) :=
 bif a0.1 != a1.1 then some ((false, ()), ()) else bif !ByteArray.toList a0.2.1 == ByteArray.toList a1.2.1 then some ((false, ()), ()) else some ((true, ()), ())
theorem Ahv (a0 : Wr) (a1 : Wr) r (h : Nd a0 a1 = some r) : Ph a0 a1 = some ((r, ()), (())) := by
 obtain ⟨hc, hd, rfl⟩ := Jb (t := Eb) h
 obtain ⟨hc0, hc1, _⟩ : A4 tI a0.1 = true ∧ A4 .str a0.2.1 = true ∧ True := by
  have s := hc
  obtain ⟨h0, s⟩ := Aj s
  obtain ⟨h1, s⟩ := Aj s
  exact ⟨h0, h1, trivial⟩
 obtain ⟨hd0, hd1, _⟩ : A4 tI a1.1 = true ∧ A4 .str a1.2.1 = true ∧ True := by
  have s := hd
  obtain ⟨h0, s⟩ := Aj s
  obtain ⟨h1, s⟩ := Aj s
  exact ⟨h0, h1, trivial⟩
 unfold Ph
 have e0 : (a0.1 != a1.1) = !R6 a0.1 a1.1 := Aau _ _
 have e1 : (!(ByteArray.toList a0.2.1 == ByteArray.toList a1.2.1)) = !eqS a0.2.1 a1.2.1 := rfl
 simp only [e0, e1, Option.bind_some]
 show _ = some (((R6 a0.1 a1.1 && (eqS a0.2.1 a1.2.1 && true)), ()), ())
 generalize R6 a0.1 a1.1 = p0
 generalize eqS a0.2.1 a1.2.1 = p1
 cases p0 <;> cases p1 <;> rfl
theorem Ahw : Bo Tryz.prog 192 sd_laws_eqWrite :=
 At (pat := Cr) [] Fu (Au (l := []) trivial) trivial Tryz.func192 (de := fun x => Ph x.1 x.2.1) (fun x r h => Az (Ahv x.1 x.2.1) h) fun _ => by kernel_rfl
def K8 (a b : List Wr) : Option Bool := eqM (.sl Eb) a b
def Afa : Sig := ⟨[.rd (.sl Eb), .rd (.sl Eb)], [none, none], [.rd .bool], [none]⟩
noncomputable def sd_laws_eqWriteS : SD := ⟨Afa, fun x => (K8 x.1 x.2.1).bind fun r => some ((r, ()), (()))⟩
noncomputable def ta_laws_eqWriteS : Tb := tb [(192, sd_laws_eqWrite)]
def pa_laws_eqWriteS : Nat → Pat × (Nat → Pat) := Fe [(5, ⟨[.sl 0 0 Eb, .sl 1 0 Eb], [(0, .lf (.d (.sl Eb))), (1, .lf (.d (.sl Eb))), (5, .lf (.d tI))], []⟩, [(2, p0), (1, ⟨[], [(4, .lf (.d .bool))], []⟩)])]
noncomputable def co_laws_eqWriteS_5 : Code := (Ao (A8 Tryz.f119)).getD 0 .skip
def D4 (v0 : List Wr) (v1 : List Wr) (v5 : Int) : Nat := ((v0.length : Int) - v5).toNat + 1
noncomputable def G9 {R : Type}  (NX : ((List Wr) × (List Wr) × (Int) × Unit) → Option R) (X2 : (Unit) → Option R) (X1 : ((Bool) × Unit) → Option R) (v0 : List Wr) (v1 : List Wr) (v5 : Int) : Option R :=
 bif decide (v5 < nI v0.length) then bif decide (0 ≤ v5) then bif decide (v5 < nI v0.length) then bif decide (0 ≤ v5) then bif decide (v5 < nI v1.length) then ((Nd (v0.getD v5.toNat (0, ByteArray.mk #[], ())) (v1.getD v5.toNat (0, ByteArray.mk #[], ()))).bind fun val => some ((val, ()), ())).bind fun val => bif !val.1.1 then X1 (false, ()) else NX (v0, v1, IntKind.i64.wrap (v5 + 1), ()) else none else none else none else none else X2 PUnit.unit
noncomputable def B1 : Nat → (List Wr) → (List Wr) → (Int) →  Option ((Unit) ⊕ ((Bool) × Unit))
 | 0, _, _, _ => none
 | m + 1, v0, v1, v5 => G9  (fun d => B1 m d.1 d.2.1 d.2.2.1) (fun d => some (.inl (d))) (fun d => some (.inr (d))) v0 v1 v5
noncomputable def Oe (a0 : List Wr) (a1 : List Wr) : Option ((((Bool) × Unit) × (Unit))) :=
 bif nI a0.length != nI a1.length then some ((false, ()), ()) else ((fun d => B1 (D4 d.1 d.2.1 d.2.2.1) d.1 d.2.1 d.2.2.1) (a0, a1, 0, ())).bind fun val => Cs (fun val => some ((true, ()), ())) (fun val => some (val, ())) val
theorem Afb (a0 : List Wr) (a1 : List Wr) r (h : K8 a0 a1 = some r) : Oe a0 a1 = some ((r, ()), (())) := by
 obtain ⟨hc, hd, rfl⟩ := Jb (t := .sl Eb) h
 obtain ⟨hlx0, hx⟩ := Ks hc
 obtain ⟨hly0, hy⟩ := Ks hd
 have hlx : a0.length < 1152921504606846976 := hlx0
 have hly : a1.length < 1152921504606846976 := hly0
 clear hlx0 hly0 hc hd h
 ·unfold Oe
  by_cases hl : a1.length = a0.length
  ·have c1 : (nI a0.length != nI a1.length) = false := by simp [nI, hl]
   have hL := Aar (xs := a0) (ys := a1) (0, (ByteArray.mk #[]), ()) (fun x y : Wr => Lv Eb x y) (g := fun m i => B1 m a0 a1 i) (ok := .inl ()) (bad := .inr (false, ())) hl (fun m i hi => by
    show B1 (m + 1) a0 a1 i = _
    simp only [B1, G9]
    rw [Ou hi, F2, Ou (show i < a1.length by omega), wI (by omega)]
    simp only [cond_true, Int.toNat_natCast]
    have f1 : A4 Eb (List.getD (α := Wr) a0 i (0, (ByteArray.mk #[]), ())) = true := hx _ (Ot (0, (ByteArray.mk #[]), ()) hi)
    have f2 : A4 Eb (List.getD (α := Wr) a1 i (0, (ByteArray.mk #[]), ())) = true := hy _ (Ot (0, (ByteArray.mk #[]), ()) (by omega))
    have hE : Nd (List.getD (α := Wr) a0 i (0, (ByteArray.mk #[]), ())) (List.getD (α := Wr) a1 i (0, (ByteArray.mk #[]), ())) = some (Lv Eb (List.getD (α := Wr) a0 i (0, (ByteArray.mk #[]), ())) (List.getD (α := Wr) a1 i (0, (ByteArray.mk #[]), ()))) := by
     exact Ta (t := Eb) (x := (List.getD (α := Wr) a0 i (0, (ByteArray.mk #[]), ()))) (y := (List.getD (α := Wr) a1 i (0, (ByteArray.mk #[]), ()))) f1 f2
    rw [hE]
    cases q : Lv Eb (List.getD (α := Wr) a0 i (0, (ByteArray.mk #[]), ())) (List.getD (α := Wr) a1 i (0, (ByteArray.mk #[]), ())) <;> simp only [Option.bind_some, q] <;> rfl) (fun m => by
    show B1 (m + 1) a0 a1 a0.length = _
    simp only [B1, G9]
    rw [I0]
    rfl) (D4 a0 a1 0) 0 (by omega) (by simp [D4])
   rw [c1]
   have hL' : B1 (D4 a0 a1 0) a0 a1 0 = _ := hL
   show (B1 (D4 a0 a1 0) a0 a1 0).bind _ = some ((eqL (α := Wr) (fun x y : Wr => Lv Eb x y) a0 a1, ()), ())
   rw [hL', List.drop_zero, List.drop_zero]
   cases eqL (α := Wr) (fun x y : Wr => Lv Eb x y) a0 a1 <;> rfl
  ·have c1 : (nI a0.length != nI a1.length) = true := by simp [nI]; omega
   rw [c1]
   show _ = some ((eqL (α := Wr) (fun x y : Wr => Lv Eb x y) a0 a1, ()), ())
   rw [Aaq (fun q => hl q.symm)]
   rfl
noncomputable def Ru {R : Type} (k : Kt R) := (Cs (Iz (pa_laws_eqWriteS 5) (.exit 0) 2 k) (Iz (pa_laws_eqWriteS 5) .ret 1 k))
noncomputable def W8 {R : Type} : Lt R pa_laws_eqWriteS := (Ef (pat := pa_laws_eqWriteS) 5 (fun d k => (B1 (D4 d.1 d.2.1 d.2.2.1) d.1 d.2.1 d.2.2.1).bind (Ru k)) Fu)
theorem U6 : As Tryz.prog ta_laws_eqWriteS := Au ⟨Ahw, trivial⟩
theorem w5 {R : Type} : Ay Tryz.prog R 27 0 pa_laws_eqWriteS W8 co_laws_eqWriteS_5 :=
 B6 (cfg := ⟨ta_laws_eqWriteS, 0, 27, pa_laws_eqWriteS⟩) 5 [] (fun NX X d => G9  NX (fun e => X (.inl (e))) (fun e => X (.inr (e))) d.1 d.2.1 d.2.2.1) (fun m d => B1 m d.1 d.2.1 d.2.2.1) (fun d => D4 d.1 d.2.1 d.2.2.1) Ru U6 trivial (fun f NX d => by unfold G9; simp only [Am, Ap, Ah, Option.bind_assoc, Option.bind_none, Option.bind_some]) (fun _ _ _ => by kernel_rfl)
theorem Afc : Bo Tryz.prog 119 sd_laws_eqWriteS :=
 At (pat := pa_laws_eqWriteS) [co_laws_eqWriteS_5] W8 U6 ⟨w5, trivial⟩ Tryz.func119 (de := fun x => Oe x.1 x.2.1) (fun x r h => Az (Afb x.1 x.2.1) h) fun _ => by kernel_rfl
def On (a b : Dk) : Option Bool := eqM yDk a b
def Al5 : Sig := ⟨[.rd yDk, .rd yDk], [some 2, some 2], [.rd .bool], [none]⟩
noncomputable def sd_laws_eqDisk : SD := ⟨Al5, fun x => (On x.1 x.2.1).bind fun r => some ((r, ()), (()))⟩
noncomputable def Rv (a0 : Dk) (a1 : Dk) : Option ((((Bool) × Unit) × (Unit))) :=
 ((Kj a0.1 a1.1).bind fun val => some ((val, ()), ())).bind fun val => bif !val.1.1 then some ((false, ()), ()) else ((K8 a0.2.1 a1.2.1).bind fun val => some ((val, ()), ())).bind fun val => bif !val.1.1 then some ((false, ()), ()) else some ((true, ()), ())
theorem Al6 (a0 : Dk) (a1 : Dk) r (h : On a0 a1 = some r) : Rv a0 a1 = some ((r, ()), (())) := by
 obtain ⟨hc, hd, rfl⟩ := Jb (t := yDk) h
 obtain ⟨hc0, hc1, _⟩ : A4 (.sl .str) a0.1 = true ∧ A4 (.sl Eb) a0.2.1 = true ∧ True := by
  have s := hc
  obtain ⟨h0, s⟩ := Aj s
  obtain ⟨h1, s⟩ := Aj s
  exact ⟨h0, h1, trivial⟩
 obtain ⟨hd0, hd1, _⟩ : A4 (.sl .str) a1.1 = true ∧ A4 (.sl Eb) a1.2.1 = true ∧ True := by
  have s := hd
  obtain ⟨h0, s⟩ := Aj s
  obtain ⟨h1, s⟩ := Aj s
  exact ⟨h0, h1, trivial⟩
 unfold Rv
 have e0 : Kj a0.1 a1.1 = some (Lv (.sl .str) a0.1 a1.1) := Ta (t := (.sl .str)) hc0 hd0
 have e1 : K8 a0.2.1 a1.2.1 = some (Lv (.sl Eb) a0.2.1 a1.2.1) := Ta (t := (.sl Eb)) hc1 hd1
 simp only [e0, e1, Option.bind_some]
 show _ = some (((Lv (.sl .str) a0.1 a1.1 && (Lv (.sl Eb) a0.2.1 a1.2.1 && true)), ()), ())
 generalize Lv (.sl .str) a0.1 a1.1 = p0
 generalize Lv (.sl Eb) a0.2.1 a1.2.1 = p1
 cases p0 <;> cases p1 <;> rfl
theorem Al7 : Bo Tryz.prog 32 sd_laws_eqDisk :=
 At (pat := Cr) [] Fu (Au (l := [(118, sd_laws_eqStringS), (119, sd_laws_eqWriteS)]) ⟨Acz, Afc, trivial⟩) trivial Tryz.func32 (de := fun x => Rv x.1 x.2.1) (fun x r h => Az (Al6 x.1 x.2.1) h) fun _ => by kernel_rfl
def I8 (a : List ByteArray) (k : Int) : Option (Int × (List ByteArray)) := If .str a k
def Z4 : Sig := ⟨[.mu 9 .str, .rd tI], [none, none], [.rd tI], [none]⟩
noncomputable def sd_laws_markStringS : SD := ⟨Z4, fun x => (I8 x.1 x.2.1).bind fun r => some ((r.1, ()), (r.2, ()))⟩
noncomputable def ta_laws_markStringS : Tb := tb [(99, sd_laws_markText)]
def pa_laws_markStringS : Nat → Pat × (Nat → Pat) := Fe [(3, ⟨[], [(0, .lf (.row 0)), (1, .lf (.d tI)), (5, .lf (.d tI))], [.row 9 .str]⟩, [(2, ⟨[], [(1, .lf (.d tI))], [.row 9 .str]⟩)])]
noncomputable def co_laws_markStringS_3 : Code := (Ao (A8 Tryz.f120)).getD 0 .skip
def Cu (v1 : Int) (v5 : Int) (r0 : List ByteArray) : Nat := ((r0.length : Int) - v5).toNat + 1
noncomputable def E0 {R : Type}  (NX : ((Int) × (Int) × (List ByteArray) × Unit) → Option R) (X2 : ((Int) × (List ByteArray) × Unit) → Option R) (v1 : Int) (v5 : Int) (r0 : List ByteArray) : Option R :=
 bif decide (v5 < nI r0.length) then ((A5 v1).bind fun val => some ((val, ()), ())).bind fun val => bif decide (0 ≤ v5) then bif decide (v5 < nI r0.length) then bif decide (v5.toNat < r0.length) then NX (IntKind.i64.wrap (v1 + 1), IntKind.i64.wrap (v5 + 1), r0.set v5.toNat val.1.1, ()) else none else none else none else X2 (v1, r0, ())
noncomputable def A1 : Nat → (Int) → (Int) → (List ByteArray) →  Option ((Int) × (List ByteArray) × Unit)
 | 0, _, _, _ => none
 | m + 1, v1, v5, r0 => E0  (fun d => A1 m d.1 d.2.1 d.2.2.1) (fun d => some (d)) v1 v5 r0
noncomputable def Kq (a0 : List ByteArray) (a1 : Int) : Option ((((Int) × Unit) × ((List ByteArray) × Unit))) :=
 ((fun d => A1 (Cu d.1 d.2.1 d.2.2.1) d.1 d.2.1 d.2.2.1) (a1, 0, a0, ())).bind fun val => some ((val.1, ()), val.2)
theorem Z5 (a0 : List ByteArray) (a1 : Int) r (h : I8 a0 a1 = some r) : Kq a0 a1 = some ((r.1, ()), (r.2, ())) := by
 obtain ⟨g0, g1, hl0, rfl⟩ := Vy (t := .str) h
 have hl : a0.length ≤ 1125899906842624 := hl0
 have hEE : (fun k : Int => (show ByteArray from (mkE .str k).1)) = (fun k : Int => Kl (k)) := funext fun k => by
  show Kl (k) = Kl (k)
  try simp only [Int.add_assoc, Int.add_zero]
  try rfl
 show _ = some ((a1 + (a0.length : Int) * 1, ()), (gL (fun k : Int => (show ByteArray from (mkE .str k).1)) 1 a0.length a1, ()))
 rw [hEE]
 unfold Kq
 have hL := T3 (fun k : Int => Kl (k)) 1 (n := a0.length) (K := 36028797018963000) (g := fun m k i r => A1 m k i r) (ok := fun k r => (k, r, ())) (fun m i k r hi hr h1 hK => by
  show A1 (m + 1) k i r = _
  have hK1 : k + 1 ≤ 36028797018963000 := by
   have : (1 : Int) ≤ (a0.length - i : Nat) := by omega
   omega
  rw [show A1 (m + 1) k i r = A1 (m + 1) (k + 0) i r from by rw [Int.add_zero]]
  have k0 : k = k + 0 := (Int.add_zero k).symm
  have t0 : A5 (k + 0) = some (Kl (k + 0)) := if_pos (by omega)
  have w0 : IntKind.i64.wrap (k + 0 + 1) = k + 1 := by rw [Ad (by omega) (by omega)]; omega
  have hir : i < r.length := by omega
  simp only [A1, E0]
  simp only [t0,  Option.bind_some, w0,  List.length_set, List.set_set, Ou hir, F2, Axr hir, wI (show i < 4611686018427387904 by omega), cond_true, Int.toNat_natCast, Hm hir]
  first | rfl | (rw [Int.add_zero]; rfl) | (simp only [Int.add_zero]; rfl)) (fun m k r hr => by
  show A1 (m + 1) k a0.length r = _
  simp only [A1, E0, hr]
  rw [I0]
  rfl) (Cu a1 0 a0) 0 a1 a0 (by omega) (by simp [Cu]) rfl g0 (by omega)
 have hL' : A1 (Cu a1 0 a0) a1 0 a0 = _ := hL
 show (A1 (Cu a1 0 a0) a1 0 a0).bind _ = _
 rw [hL']
 rfl
noncomputable def Nj {R : Type} (k : Kt R) := (Iz (pa_laws_markStringS 3) (.exit 0) 2 k)
noncomputable def Rw {R : Type} : Lt R pa_laws_markStringS := (Ef (pat := pa_laws_markStringS) 3 (fun d k => (A1 (Cu d.1 d.2.1 d.2.2.1) d.1 d.2.1 d.2.2.1).bind (Nj k)) Fu)
theorem Pu : As Tryz.prog ta_laws_markStringS := Au ⟨Gi, trivial⟩
theorem W9 {R : Type} : Ay Tryz.prog R 20 1 pa_laws_markStringS Rw co_laws_markStringS_3 :=
 B6 (cfg := ⟨ta_laws_markStringS, 1, 20, pa_laws_markStringS⟩) 3 [] (fun NX X d => E0  NX X d.1 d.2.1 d.2.2.1) (fun m d => A1 m d.1 d.2.1 d.2.2.1) (fun d => Cu d.1 d.2.1 d.2.2.1) Nj Pu trivial (fun f NX d => by unfold E0; simp only [Am, Ap, Ah, Option.bind_assoc, Option.bind_none, Option.bind_some]) (fun _ _ _ => by kernel_rfl)
theorem Z6 : Bo Tryz.prog 120 sd_laws_markStringS :=
 At (pat := pa_laws_markStringS) [co_laws_markStringS_3] Rw Pu ⟨W9, trivial⟩ Tryz.func120 (de := fun x => Kq x.1 x.2.1) (fun x r h => Az (Z5 x.1 x.2.1) h) fun _ => by kernel_rfl
def Js (a : List Wr) (k : Int) : Option (Int × (List Wr)) := If Eb a k
def w6 : Sig := ⟨[.mu 182 Eb, .rd tI], [none, none], [.rd tI], [none]⟩
noncomputable def sd_laws_markWriteS : SD := ⟨w6, fun x => (Js x.1 x.2.1).bind fun r => some ((r.1, ()), (r.2, ()))⟩
noncomputable def ta_laws_markWriteS : Tb := tb [(99, sd_laws_markText)]
def pa_laws_markWriteS : Nat → Pat × (Nat → Pat) := Fe [(3, ⟨[], [(0, .lf (.row 0)), (1, .lf (.d tI)), (5, .lf (.d tI))], [.row 182 Eb]⟩, [(2, ⟨[], [(1, .lf (.d tI))], [.row 182 Eb]⟩)])]
noncomputable def co_laws_markWriteS_3 : Code := (Ao (A8 Tryz.f121)).getD 0 .skip
def C6 (v1 : Int) (v5 : Int) (r0 : List Wr) : Nat := ((r0.length : Int) - v5).toNat + 1
noncomputable def Fs {R : Type}  (NX : ((Int) × (Int) × (List Wr) × Unit) → Option R) (X2 : ((Int) × (List Wr) × Unit) → Option R) (v1 : Int) (v5 : Int) (r0 : List Wr) : Option R :=
 bif decide (v5 < nI r0.length) then bif decide (0 ≤ v5) then bif decide (v5 < nI r0.length) then bif decide (v5.toNat < r0.length) then ((A5 (IntKind.i64.wrap (v1 + 1))).bind fun val => some ((val, ()), ())).bind fun val => bif decide (0 ≤ v5) then bif decide (v5 < nI (r0.set v5.toNat (v1, (r0.getD v5.toNat (0, ByteArray.mk #[], ())).2)).length) then bif decide (v5.toNat < (r0.set v5.toNat (v1, (r0.getD v5.toNat (0, ByteArray.mk #[], ())).2)).length) then NX (IntKind.i64.wrap (IntKind.i64.wrap (v1 + 1) + 1), IntKind.i64.wrap (v5 + 1), (r0.set v5.toNat (v1, (r0.getD v5.toNat (0, ByteArray.mk #[], ())).2)).set v5.toNat (((r0.set v5.toNat (v1, (r0.getD v5.toNat (0, ByteArray.mk #[], ())).2)).getD v5.toNat (0, ByteArray.mk #[], ())).1, val.1), ()) else none else none else none else none else none else none else X2 (v1, r0, ())
noncomputable def A9 : Nat → (Int) → (Int) → (List Wr) →  Option ((Int) × (List Wr) × Unit)
 | 0, _, _, _ => none
 | m + 1, v1, v5, r0 => Fs  (fun d => A9 m d.1 d.2.1 d.2.2.1) (fun d => some (d)) v1 v5 r0
noncomputable def Lq (a0 : List Wr) (a1 : Int) : Option ((((Int) × Unit) × ((List Wr) × Unit))) :=
 ((fun d => A9 (C6 d.1 d.2.1 d.2.2.1) d.1 d.2.1 d.2.2.1) (a1, 0, a0, ())).bind fun val => some ((val.1, ()), val.2)
theorem w7 (a0 : List Wr) (a1 : Int) r (h : Js a0 a1 = some r) : Lq a0 a1 = some ((r.1, ()), (r.2, ())) := by
 obtain ⟨g0, g1, hl0, rfl⟩ := Vy (t := Eb) h
 have hl : a0.length ≤ 1125899906842624 := hl0
 have hEE : (fun k : Int => (show Wr from (mkE Eb k).1)) = (fun k : Int => (k, Kl (k + 1), ())) := funext fun k => by
  show (k, Kl (k + 1), ()) = (k, Kl (k + 1), ())
  try simp only [Int.add_assoc, Int.add_zero]
  try rfl
 show _ = some ((a1 + (a0.length : Int) * 2, ()), (gL (fun k : Int => (show Wr from (mkE Eb k).1)) 2 a0.length a1, ()))
 rw [hEE]
 unfold Lq
 have hL := T3 (fun k : Int => (k, Kl (k + 1), ())) 2 (n := a0.length) (K := 36028797018963000) (g := fun m k i r => A9 m k i r) (ok := fun k r => (k, r, ())) (fun m i k r hi hr h1 hK => by
  show A9 (m + 1) k i r = _
  have hK1 : k + 2 ≤ 36028797018963000 := by
   have : (1 : Int) ≤ (a0.length - i : Nat) := by omega
   omega
  rw [show A9 (m + 1) k i r = A9 (m + 1) (k + 0) i r from by rw [Int.add_zero]]
  have k0 : k = k + 0 := (Int.add_zero k).symm
  have t1 : A5 (k + 1) = some (Kl (k + 1)) := if_pos (by omega)
  have w0 : IntKind.i64.wrap (k + 0 + 1) = k + 1 := by rw [Ad (by omega) (by omega)]; omega
  have w1 : IntKind.i64.wrap (k + 1 + 1) = k + 2 := by rw [Ad (by omega) (by omega)]; omega
  have hir : i < r.length := by omega
  simp only [A9, Fs]
  simp only [t1,  Option.bind_some, w0, w1,  List.length_set, List.set_set, Ou hir, F2, Axr hir, wI (show i < 4611686018427387904 by omega), cond_true, Int.toNat_natCast, Hm hir]
  first | rfl | (rw [Int.add_zero]; rfl) | (simp only [Int.add_zero]; rfl)) (fun m k r hr => by
  show A9 (m + 1) k a0.length r = _
  simp only [A9, Fs, hr]
  rw [I0]
  rfl) (C6 a1 0 a0) 0 a1 a0 (by omega) (by simp [C6]) rfl g0 (by omega)
 have hL' : A9 (C6 a1 0 a0) a1 0 a0 = _ := hL
 show (A9 (C6 a1 0 a0) a1 0 a0).bind _ = _
 rw [hL']
 rfl
noncomputable def O2 {R : Type} (k : Kt R) := (Iz (pa_laws_markWriteS 3) (.exit 0) 2 k)
noncomputable def S3 {R : Type} : Lt R pa_laws_markWriteS := (Ef (pat := pa_laws_markWriteS) 3 (fun d k => (A9 (C6 d.1 d.2.1 d.2.2.1) d.1 d.2.1 d.2.2.1).bind (O2 k)) Fu)
theorem Rx : As Tryz.prog ta_laws_markWriteS := Au ⟨Gi, trivial⟩
theorem Y8 {R : Type} : Ay Tryz.prog R 28 1 pa_laws_markWriteS S3 co_laws_markWriteS_3 :=
 B6 (cfg := ⟨ta_laws_markWriteS, 1, 28, pa_laws_markWriteS⟩) 3 [] (fun NX X d => Fs  NX X d.1 d.2.1 d.2.2.1) (fun m d => A9 m d.1 d.2.1 d.2.2.1) (fun d => C6 d.1 d.2.1 d.2.2.1) O2 Rx trivial (fun f NX d => by unfold Fs; simp only [Am, Ap, Ah, Option.bind_assoc, Option.bind_none, Option.bind_some]) (fun _ _ _ => by kernel_rfl)
theorem w8 : Bo Tryz.prog 121 sd_laws_markWriteS :=
 At (pat := pa_laws_markWriteS) [co_laws_markWriteS_3] S3 Rx ⟨Y8, trivial⟩ Tryz.func121 (de := fun x => Lq x.1 x.2.1) (fun x r h => Az (w7 x.1 x.2.1) h) fun _ => by kernel_rfl
def Jk (a : Dk) (k : Int) : Option (Int × (List ByteArray) × (List Wr)) := (If .str a.1 k).bind fun r0 => (If Eb a.2.1 r0.1).bind fun r1 =>  some (r1.1, r0.2, r1.2)
def Afd : Sig := ⟨[.mu 9 .str, .mu 182 Eb, .rd tI], [some 2, none], [.rd tI], [none]⟩
noncomputable def sd_laws_markDisk : SD := ⟨Afd, fun x => (Jk (x.1, x.2.1, ()) x.2.2.1).bind fun r => some ((r.1, ()), (r.2.1, r.2.2, ()))⟩
noncomputable def Of (a0 : List ByteArray) (a1 : List Wr) (a2 : Int) : Option ((((Int) × Unit) × Dk)) :=
 ((I8 a0 a2).bind fun val => some ((val.1, ()), val.2, ())).bind fun val => ((Js a1 val.1.1).bind fun val => some ((val.1, ()), val.2, ())).bind fun val_1 => some (val_1.1, val.2.1, val_1.2)
theorem Afe (a0 : List ByteArray) (a1 : List Wr) (a2 : Int) r (h : Jk (a0, a1, ()) a2 = some r) : Of a0 a1 a2 = some ((r.1, ()), (r.2.1, r.2.2, ())) := by
 unfold Jk at h
 obtain ⟨⟨k0, x0⟩, e0, h⟩ := Option.bind_eq_some_iff.1 h
 have e0 : If .str a0 a2 = some (k0, x0) := e0
 obtain ⟨⟨k1, x1⟩, e1, h⟩ := Option.bind_eq_some_iff.1 h
 have e1 : If Eb a1 k0 = some (k1, x1) := e1
 cases h
 unfold Of
 have c0 : I8 a0 a2 = (some (k0, x0) : Option (Int × (List ByteArray))) := e0
 rw [c0]
 simp only [Option.bind_some]
 have c1 : Js a1 k0 = (some (k1, x1) : Option (Int × (List Wr))) := e1
 rw [c1]
 simp only [Option.bind_some]
 try rfl
theorem Aff : Bo Tryz.prog 33 sd_laws_markDisk :=
 At (pat := Cr) [] Fu (Au (l := [(120, sd_laws_markStringS), (121, sd_laws_markWriteS)]) ⟨Z6, w8, trivial⟩) trivial Tryz.func33 (de := fun x => Of x.1 x.2.1 x.2.2.1) (fun x r h => Az (Afe x.1 x.2.1 x.2.2.1) h) fun _ => by kernel_rfl
def Z7 : Sig := ⟨[.rd yDk, .rd tI], [some 2, none], [.rd .bool], [none]⟩
noncomputable def Ia (a0 : Dk) (a1 : Int) : Option ((((Bool) × Unit) × (Unit))) :=
 ((Ok a0 1048576).bind fun val => some ((val, ()), ())).bind fun val => bif decide (val.1.1 < 0) then some ((true, ()), ()) else ((H4 a0).bind fun val => some (val, ())).bind fun val => ((H4 a0).bind fun val => some (val, ())).bind fun val_1 => ((Jm (Al val_1.1 a1) (A0 val.1 a1)).bind fun val => some ((val, ()), ())).bind fun val_2 => bif !val_2.1.1 then some ((false, ()), ()) else ((H4 a0).bind fun val => some (val, ())).bind fun val_3 => ((On val_1.1 val_3.1).bind fun val => some ((val, ()), ())).bind fun val_4 => bif !val_4.1.1 then some ((false, ()), ()) else ((Jk val_1.1 1).bind fun val => some ((val.1, ()), val.2.1, val.2.2, ())).bind fun val_5 => bif decide (val_5.1.1 < 0) then some ((false, ()), ()) else ((Jm (Al val_1.1 a1) (A0 val.1 a1)).bind fun val => some ((val, ()), ())).bind fun val_6 => bif !val_6.1.1 then some ((false, ()), ()) else ((Jd (Al val_1.1 a1) 1).bind fun val => some ((val.1, ()), val.2.1, val.2.2, ())).bind fun val_7 => ((Hf ((Al val_1.1 a1).1, ((Al val_1.1 a1).2.1.1, (Al val_1.1 a1).2.1.2.1, (Al val_1.1 a1).2.1.2.2.1, (Al val_1.1 a1).2.1.2.2.2.1, (Al val_1.1 a1).2.1.2.2.2.2.1, (Al val_1.1 a1).2.1.2.2.2.2.2.1, (val_7.2.1, ()), ()), val_7.2.2) 1).bind fun val => some ((val, ()), ())).bind fun val_8 => bif decide (val_8.1.1 < 0) then some ((false, ()), ()) else bif val_8.1.1 != val_7.1.1 then some ((false, ()), ()) else ((H4 a0).bind fun val => some (val, ())).bind fun val_9 => ((Jm (Al val_9.1 a1) (A0 val.1 a1)).bind fun val => some ((val, ()), ())).bind fun val => bif !val.1.1 then some ((false, ()), ()) else ((Hf ((Al val_1.1 a1).1, ((Al val_1.1 a1).2.1.1, (Al val_1.1 a1).2.1.2.1, (Al val_1.1 a1).2.1.2.2.1, (Al val_1.1 a1).2.1.2.2.2.1, (Al val_1.1 a1).2.1.2.2.2.2.1, (Al val_1.1 a1).2.1.2.2.2.2.2.1, (val_7.2.1, ()), ()), val_7.2.2) 1).bind fun val => some ((val, ()), ())).bind fun val => bif decide (val.1.1 < 0) then some ((false, ()), ()) else bif val.1.1 != val_7.1.1 then some ((false, ()), ()) else some ((true, ()), ())
noncomputable def sd_laws_FnExactOpen : SD := ⟨Z7, fun x => Ia x.1 x.2.1⟩
theorem Ahx (a0 : Dk)  (a1 : Int) (h0 : d6 yDk a0) (h1 : d6 tI a1) : Ia a0 a1 = some ((true, ()), ()) := by
 have hf0 := Aaw h0
 have hf1 := Aaw h1
 unfold Ia
 rcases Azo (l0 := 1048576) hf0 (by first | decide | assumption) (by first | decide | assumption) (m := Ok a0 1048576) rfl with e0 | ⟨l0, e0, g0, k0, s0, q0⟩
 ·simp only [e0, Option.bind_some, A28, cond_true, cond_false]
 ·skip
  have t0 : H4 a0 = some a0 := Au1 (t := yDk) (x := a0) s0
  have u0 : On a0 a0 = some true := Ash (t := yDk) (x := a0) hf0
  have gw : A0 a0 a1 = Al a0 a1 := rfl
  have gg0 : Ha Auy (Al a0 a1) = true := Ax2 _ _
  simp only [e0, q0, t0, u0, Option.bind_some, cond_false, gw]
  generalize Al a0 a1 = g at *
  have v0 : Jm g g = some true := Ash (t := Auy) (x := g) (Zk gg0)
  have Lx0 := s0
  simp only [Ie, Ha, Bool.and_eq_true, decide_eq_true_eq, and_true, true_and] at Lx0
  obtain ⟨kx0_0, yx0_0, mx0_0, bx0_0, cx0_0, dx0_0⟩ : ∃ (k2 : Int) (ys : List (ByteArray)), If .str a0.1 1 = (some (k2, ys) : Option (Int × List (ByteArray))) ∧ 1 ≤ k2 ∧ k2 ≤ 1 + 1073741824 * ((1 : Nat) : Int) ∧ L7 .str ys 1 = some k2 := Awg (t := .str) (xs := a0.1) (k := 1) 1 rfl (by omega) (by omega) (by omega)
  obtain ⟨kx0_1, yx0_1, mx0_1, bx0_1, cx0_1, dx0_1⟩ : ∃ (k2 : Int) (ys : List Wr), If Eb a0.2.1 kx0_0 = (some (k2, ys) : Option (Int × List Wr)) ∧ kx0_0 ≤ k2 ∧ k2 ≤ kx0_0 + 1073741824 * ((2 : Nat) : Int) ∧ L7 Eb ys kx0_0 = some k2 := Awg (t := Eb) (xs := a0.2.1) (k := kx0_0) 2 rfl (by omega) (by omega) (by omega)
  have mkx0 : Jk a0 1 = some (kx0_1, yx0_0, yx0_1) := Tk mx0_0 (Tk mx0_1 (rfl))
  have nkx : decide (kx0_1 < 0) = false := decide_eq_false (by omega)
  have Lz0 := gg0
  simp only [Ie, Ha, Bool.and_eq_true, decide_eq_true_eq, and_true, true_and] at Lz0
  obtain ⟨kz0_0, yz0_0, mz0_0, bz0_0, cz0_0, dz0_0⟩ : ∃ (k2 : Int) (ys : List Pr2), If Aq g.2.1.2.2.2.2.2.2.1.1 1 = (some (k2, ys) : Option (Int × List Pr2)) ∧ 1 ≤ k2 ∧ k2 ≤ 1 + 1073741824 * ((2 : Nat) : Int) ∧ L7 Aq ys 1 = some k2 := Awg (t := Aq) (xs := g.2.1.2.2.2.2.2.2.1.1) (k := 1) 2 rfl (by omega) (by omega) (by omega)
  obtain ⟨kz0_1, yz0_1, mz0_1, bz0_1, cz0_1, dz0_1⟩ : ∃ (k2 : Int) (ys : List Opn), If B7 g.2.2.1 kz0_0 = (some (k2, ys) : Option (Int × List Opn)) ∧ kz0_0 ≤ k2 ∧ k2 ≤ kz0_0 + 1073741824 * ((3 : Nat) : Int) ∧ L7 B7 ys kz0_0 = some k2 := Awg (t := B7) (xs := g.2.2.1) (k := kz0_0) 3 rfl (by omega) (by omega) (by omega)
  have mkz0 : Jd g 1 = some (kz0_1, yz0_0, yz0_1) := Tk mz0_0 (Tk mz0_1 (rfl))
  have nnz0_0 : ¬ kz0_0 < 0 := by omega
  have nnz0_1 : ¬ kz0_1 < 0 := by omega
  have hdz0 : Hf (g.1, (g.2.1.1, g.2.1.2.1, g.2.1.2.2.1, g.2.1.2.2.2.1, g.2.1.2.2.2.2.1, g.2.1.2.2.2.2.2.1, (yz0_0, ()), ()), yz0_1, ()) 1 = some kz0_1 := Tk dz0_0 ((if_neg nnz0_0).trans (Tk dz0_1 (congrArg some (if_neg nnz0_1))))
  have nkz : decide (kz0_1 < 0) = false := decide_eq_false (by omega)
  simp only [e0, q0, t0, u0, v0, mkx0, nkx, mkz0, hdz0, nkz, Option.bind_some, cond_false, cond_true, beq_self_eq_true, bne_self_eq_false, Bool.not_true, Bool.or_self, Bool.false_or]
theorem Z8 : Bo Tryz.prog 5 sd_laws_FnExactOpen :=
 At (pat := Cr) [] Fu (Au (l := [(21, sd_laws_eqDone), (26, sd_laws_markDone), (27, sd_laws_heldDone), (28, sd_laws_szDisk), (29, sd_spec_Open), (30, sd_laws_toDisk), (31, sd_impl_Open), (32, sd_laws_eqDisk), (33, sd_laws_markDisk)]) ⟨Akt, Ad1, Ad4, Akw, Aqo, Als, Aq3, Al7, Aff, trivial⟩) trivial Tryz.func5 (de := fun x => Ia x.1 x.2.1) (fun x r h => h) fun _ => by kernel_rfl
end Go.Proofs.YteaoabdlcefkhaaGreat.V

